/- Shifts of limbs, the bitwise division, the greatest common divisor, decimal reading. No program in sight. -/
import Derived.Test.YteobjelenfjifaaDoorDa0
import Derived.Test.YteobjelenfjifaaDoorNr
import Derived.Test.YteobjelenfjifaaDoorNy0
namespace Go.Proofs.Nums

theorem pow32 {s : Nat} (hs : s ≤ 32) : 2 ^ s * 2 ^ (32 - s) = 4294967296 := by
  rw [← Nat.pow_add, show s + (32 - s) = 32 by omega]

/-- A limb shifted to the left: its low half is a multiple. -/
theorem left_low {x s : Nat} (hs : s ≤ 32) : x * 2 ^ s % 4294967296 = 2 ^ s * (x % 2 ^ (32 - s)) := by
  rw [← pow32 hs, Nat.mul_comm x, Nat.mul_mod_mul_left]

theorem left_high {x s : Nat} (hx : x < 4294967296) : x * 2 ^ s / 4294967296 < 2 ^ s := by
  rw [Nat.div_lt_iff_lt_mul (by omega), Nat.mul_comm (2 ^ s)]
  exact Nat.mul_lt_mul_of_pos_right hx (Nat.pow_pos (by omega))

theorem left_sum {x y s : Nat} (hs : s ≤ 32) (hy : y < 2 ^ s) : y + x * 2 ^ s % 4294967296 < 4294967296 := by
  rw [left_low hs]
  have h1 := Nat.mod_lt x (Nat.pow_pos (n := 32 - s) (by omega : 0 < 2))
  have h2 : 2 ^ s * (x % 2 ^ (32 - s) + 1) ≤ 2 ^ s * 2 ^ (32 - s) := Nat.mul_le_mul_left _ h1
  rw [pow32 hs, Nat.mul_add] at h2
  omega

theorem left_or {x y s : Nat} (hs : s ≤ 32) (hy : y < 2 ^ s) : y ||| (x * 2 ^ s % 4294967296) = y + x * 2 ^ s % 4294967296 := by
  rw [left_low hs]
  have := Nat.two_pow_add_eq_or_of_lt hy (x % 2 ^ (32 - s))
  rw [Nat.or_comm, ← this, Nat.add_comm]

theorem left_inv {o l : List Nat} {k s : Nat} (hl : Lim l) (hk : k < l.length) (hs : s < 32) (ho : o.length = l.length + 1) (h : val o = val (l.take k) * 2 ^ s) : nth o k < 2 ^ s ∧ nth o (k + 1) = 0 := by
  have h1 := val_take_lt l hl k (by omega)
  have hp : 0 < 2 ^ s := Nat.pow_pos (by omega)
  have h2 : val o < 4294967296 ^ k * 2 ^ s := by rw [h]; exact Nat.mul_lt_mul_of_pos_right h1 hp
  refine ⟨nth_bound (by omega) h2, nth_zero ?_⟩
  have h3 : 2 ^ s ≤ 2 ^ 32 := Nat.pow_le_pow_right (by omega) (by omega)
  have h4 := Nat.mul_le_mul_left (4294967296 ^ k) h3
  rw [Nat.pow_succ]; omega

theorem left_step {o l : List Nat} {k s : Nat} (hl : Lim l) (hk : k < l.length) (hs : s < 32) (ho : o.length = l.length + 1) (h : val o = val (l.take k) * 2 ^ s) :
    val ((o.set k (nth o k + nth l k * 2 ^ s % 4294967296)).set (k + 1) (nth l k * 2 ^ s / 4294967296)) = val (l.take (k + 1)) * 2 ^ s := by
  have h1 := (left_inv hl hk hs ho h).2
  have e1 := val_set o k (nth o k + nth l k * 2 ^ s % 4294967296) (by omega)
  have e2 := val_set (o.set k (nth o k + nth l k * 2 ^ s % 4294967296)) (k + 1) (nth l k * 2 ^ s / 4294967296) (by rw [List.length_set]; omega)
  rw [nth_set_ne (by omega), h1, Nat.mul_zero, Nat.add_zero] at e2
  rw [e2, val_take_succ, Nat.add_mul, ← h, Nat.pow_succ, Nat.mul_assoc (4294967296 ^ k) (nth l k)]
  have h2 := Nat.mod_add_div (nth l k * 2 ^ s) 4294967296
  generalize nth l k * 2 ^ s = z at *
  rw [← h2, Nat.mul_add, Nat.mul_assoc (4294967296 ^ k)]
  rw [Nat.mul_add] at e1
  have e3 : (z % 4294967296 + 4294967296 * (z / 4294967296)) % 4294967296 = z % 4294967296 := by omega
  have e4 : (z % 4294967296 + 4294967296 * (z / 4294967296)) / 4294967296 = z / 4294967296 := by omega
  rw [e3, e4]
  omega

theorem right_step {o a : List Nat} {k s : Nat} (ha : Lim a) (hs : s ≤ 32) (hk : k < a.length) (hko : k < o.length) (h : val (o.take k) = val a / 2 ^ s % 4294967296 ^ k) :
    val ((o.set k ((nth a k + 4294967296 * nth a (k + 1)) / 2 ^ s % 4294967296)).take (k + 1)) = val a / 2 ^ s % 4294967296 ^ (k + 1) := by
  have hp : 0 < 2 ^ s := Nat.pow_pos (by omega)
  rw [val_take_set _ _ _ hko, h, Nat.pow_succ, Nat.mod_mul]
  congr 2
  rw [Nat.div_div_eq_div_mul, Nat.mul_comm (2 ^ s), ← Nat.div_div_eq_div_mul, ← val_div a ha k (by omega), val_drop a k hk]
  by_cases h1 : k + 1 < a.length
  · rw [val_drop a (k + 1) h1]
    have e : nth a k + 4294967296 * (nth a (k + 1) + 4294967296 * val (a.drop (k + 1 + 1))) = nth a k + 4294967296 * nth a (k + 1) + 2 ^ s * (4294967296 * (2 ^ (32 - s) * val (a.drop (k + 1 + 1)))) := by
      rw [Nat.mul_left_comm (2 ^ s), ← Nat.mul_assoc (2 ^ s), pow32 hs]; omega
    rw [e, Nat.add_mul_div_left _ _ hp, Nat.add_mul_mod_self_left]
  · rw [List.drop_of_length_le (by omega), nth_ge (l := a) (i := k + 1) (by omega)]
    simp only [val, Nat.mul_zero]

theorem right_end {o a : List Nat} {s : Nat} (ha : Lim a) (ho : o.length = a.length) (h : val (o.take a.length) = val a / 2 ^ s % 4294967296 ^ a.length) : val o = val a / 2 ^ s := by
  rw [val_take_all (Nat.le_of_eq ho)] at h
  rw [h]
  exact Nat.mod_eq_of_lt (Nat.lt_of_le_of_lt (Nat.div_le_self _ _) (val_lt a ha))

/-! The bitwise division. -/
theorem bval_drop (l : List Bool) (k : Nat) (h : k < l.length) : bval (l.drop k) = bN (bnth l k) + 2 * bval (l.drop (k + 1)) := by
  rw [List.drop_eq_getElem_cons h, bval, bnth_lt h]

theorem bnth_set_self {l : List Bool} {k : Nat} {x : Bool} (h : k < l.length) : bnth (l.set k x) k = x := by rw [bnth_lt (by simpa using h)]; simp
theorem bnth_set_ne {l : List Bool} {k j : Nat} {x : Bool} (h : j ≠ k) : bnth (l.set k x) j = bnth l j := by
  unfold bnth; rw [List.getD_eq_getElem?_getD, List.getD_eq_getElem?_getD, List.getElem?_set_ne (fun e => h e.symm)]

/-- What a round of the division keeps. -/
def BDiv (a q : List Bool) (B R k : Nat) : Prop := q.length = a.length ∧ bval (a.drop k) = bval (q.drop k) * B + R ∧ R < B ∧ ∀ j, j < k → bnth q j = false

theorem BDiv.start (a : List Bool) (B : Nat) (hB : 0 < B) : BDiv a (List.replicate a.length false) B 0 a.length := by
  refine ⟨by simp, ?_, hB, fun j hj => ?_⟩
  · rw [List.drop_length, List.drop_of_length_le (by simp)]; simp [bval]
  · rw [bnth_lt (by simpa using hj)]; simp

theorem BDiv.less {a q : List Bool} {B R k : Nat} (h : BDiv a q B R (k + 1)) (hk : k < a.length) (hlt : bN (bnth a k) + 2 * R < B) : BDiv a q B (bN (bnth a k) + 2 * R) k := by
  obtain ⟨h1, h2, h3, h4⟩ := h
  refine ⟨h1, ?_, hlt, fun j hj => h4 j (by omega)⟩
  rw [bval_drop a k hk, bval_drop q k (by omega), h4 k (by omega), h2, Nat.add_mul, Nat.mul_add, Nat.mul_assoc]
  simp [bN]; omega

theorem BDiv.more {a q : List Bool} {B R k : Nat} (h : BDiv a q B R (k + 1)) (hk : k < a.length) (hge : B ≤ bN (bnth a k) + 2 * R) : BDiv a (q.set k true) B (bN (bnth a k) + 2 * R - B) k := by
  obtain ⟨h1, h2, h3, h4⟩ := h
  have hb := bN_le (bnth a k)
  refine ⟨by rw [List.length_set]; exact h1, ?_, by omega, fun j hj => by rw [bnth_set_ne (by omega)]; exact h4 j (by omega)⟩
  rw [bval_drop a k hk, bval_drop _ k (by rw [List.length_set]; omega), bnth_set_self (by omega), List.drop_set_of_lt (by omega), h2, Nat.add_mul, Nat.mul_add, Nat.mul_assoc]
  simp [bN] at hb hge ⊢; omega

theorem BDiv.done {a q : List Bool} {B R : Nat} (h : BDiv a q B R 0) : bval q = bval a / B ∧ R = bval a % B := by
  obtain ⟨h1, h2, h3, h4⟩ := h
  rw [List.drop_zero, List.drop_zero] at h2
  rw [h2, Nat.mul_comm, Nat.mul_add_div (by omega), Nat.mul_add_mod]
  exact ⟨by rw [Nat.div_eq_of_lt h3]; rfl, (Nat.mod_eq_of_lt h3).symm⟩

theorem gcd_step (a b : Nat) : Nat.gcd b (a % b) = Nat.gcd a b := by
  rw [Nat.gcd_comm b, ← Nat.gcd_rec, Nat.gcd_comm]

/-! Decimal reading. -/
def pvF (l : List UInt8) : Nat := l.foldl (fun acc c => 10 * acc + (c.toNat - 48)) 0

theorem pvF_snoc (l : List UInt8) (c : UInt8) : pvF (l ++ [c]) = 10 * pvF l + (c.toNat - 48) := by unfold pvF; rw [List.foldl_append]; rfl

theorem pvF_take (l : List UInt8) (k : Nat) (h : k < l.length) : pvF (l.take (k + 1)) = 10 * pvF (l.take k) + ((bat l k).toNat - 48) := by
  rw [List.take_succ_eq_append_getElem h, pvF_snoc, bat_lt h]

def isDig (c : UInt8) : Bool := decide (48 ≤ c.toNat) && decide (c.toNat ≤ 57)

/-- The texts of numbers. -/
def numB (l : List UInt8) : Bool := !l.isEmpty && !(bat l 0 == 48 && decide (1 < l.length)) && l.all isDig

/-- The first k bytes are digits. -/
def DigTo (l : List UInt8) (k : Nat) : Prop := ∀ j, j < k → isDig (bat l j) = true

theorem isDig_iff {c : UInt8} : isDig c = true ↔ 48 ≤ c.toNat ∧ c.toNat ≤ 57 := by unfold isDig; simp

theorem pvF_take_lt (l : List UInt8) (k : Nat) (hk : k ≤ l.length) (h : DigTo l k) : pvF (l.take k) < 10 ^ k := by
  induction k with
  | zero => simp [pvF]
  | succ k ih =>
    have h1 := ih (by omega) (fun j hj => h j (by omega))
    have h2 := isDig_iff.1 (h k (by omega))
    rw [pvF_take l k (by omega), Nat.pow_succ]
    omega

theorem DigTo.succ {l : List UInt8} {k : Nat} (h : DigTo l k) (hd : isDig (bat l k) = true) : DigTo l (k + 1) := fun j hj => by
  by_cases h1 : j < k
  · exact h j h1
  · obtain rfl : j = k := by omega
    exact hd

theorem all_of_digTo {l : List UInt8} (h : DigTo l l.length) : l.all isDig = true := by
  rw [List.all_eq_true]
  intro c hc
  obtain ⟨i, hi, rfl⟩ := List.mem_iff_getElem.1 hc
  have := h i hi
  rw [bat_lt hi] at this; exact this

theorem not_all {l : List UInt8} {k : Nat} (hk : k < l.length) (h : isDig (bat l k) = false) : l.all isDig = false := by
  rw [List.all_eq_false]
  exact ⟨l[k], List.getElem_mem hk, by rw [← bat_lt hk, h]; simp⟩

end Go.Proofs.Nums
