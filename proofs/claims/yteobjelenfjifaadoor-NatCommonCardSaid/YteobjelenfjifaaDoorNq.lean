/- Numbers in binary. No program in sight. -/
import Derived.Test.YteobjelenfjifaaDoorNp2
namespace Go.Proofs.Nums

def bN (b : Bool) : Nat := if b then 1 else 0
theorem bN_le (b : Bool) : bN b ≤ 1 := by cases b <;> decide

def bval : List Bool → Nat
  | [] => 0
  | b :: r => bN b + 2 * bval r

def bitsF : Nat → Nat → List Bool
  | 0, _ => []
  | f + 1, n => if n = 0 then [] else (n % 2 == 1) :: bitsF f (n / 2)

def bitsN (n : Nat) : List Bool := bitsF n n

/-- Bit i, false beyond the end. -/
def bnth (l : List Bool) (i : Nat) : Bool := l.getD i false
theorem bnth_lt {l : List Bool} {i : Nat} (h : i < l.length) : bnth l i = l[i] := by unfold bnth; rw [List.getD_eq_getElem?_getD, List.getElem?_eq_getElem h]; rfl
theorem bnth_ge {l : List Bool} {i : Nat} (h : l.length ≤ i) : bnth l i = false := by unfold bnth; rw [List.getD_eq_getElem?_getD, List.getElem?_eq_none h]; rfl

theorem bitsF_fuel : ∀ (f g n : Nat), n ≤ f → n ≤ g → bitsF f n = bitsF g n := by
  intro f
  induction f with
  | zero =>
    intro g n hf hg
    have : n = 0 := by omega
    subst this
    cases g <;> rfl
  | succ f ih =>
    intro g n hf hg
    cases g with
    | zero => have : n = 0 := by omega
              subst this; rfl
    | succ g =>
      unfold bitsF
      split
      · rfl
      · rw [ih g (n / 2) (by omega) (by omega)]

theorem bits_zero : bitsN 0 = [] := rfl
theorem bits_pos (n : Nat) (h : n ≠ 0) : bitsN n = (n % 2 == 1) :: bitsN (n / 2) := by
  obtain ⟨m, rfl⟩ : ∃ m, n = m + 1 := ⟨n - 1, by omega⟩
  unfold bitsN
  conv => lhs; unfold bitsF
  rw [if_neg h, bitsF_fuel m ((m + 1) / 2) _ (by omega) (Nat.le_refl _)]

theorem bval_bits (n : Nat) : bval (bitsN n) = n := by
  induction n using Nat.strongRecOn with
  | _ n ih =>
    by_cases h : n = 0
    · subst h; rfl
    · rw [bits_pos n h, bval, ih _ (by omega)]
      by_cases h2 : n % 2 = 1
      · simp [bN, h2]; omega
      · simp [bN, h2]; omega

theorem bval_app (a b : List Bool) : bval (a ++ b) = bval a + 2 ^ a.length * bval b := by
  induction a with
  | nil => simp [bval]
  | cons x a ih =>
    rw [List.cons_append, bval, bval, ih, List.length_cons, Nat.pow_succ, Nat.mul_add, Nat.add_assoc]
    congr 2
    rw [← Nat.mul_assoc, Nat.mul_comm 2]

theorem bval_lt (l : List Bool) : bval l < 2 ^ l.length := by
  induction l with
  | nil => simp [bval]
  | cons x l ih =>
    have := bN_le x
    rw [bval, List.length_cons, Nat.pow_succ]; omega

theorem bval_zeros (n : Nat) : bval (List.replicate n false) = 0 := by
  induction n with
  | zero => rfl
  | succ n ih => rw [List.replicate_succ, bval, ih]; rfl

theorem bval_take_drop (l : List Bool) (k : Nat) : bval l = bval (l.take k) + 2 ^ (l.take k).length * bval (l.drop k) := by
  conv => lhs; rw [← List.take_append_drop k l]
  exact bval_app _ _

theorem bval_snoc (l : List Bool) (x : Bool) : bval (l ++ [x]) = bval l + 2 ^ l.length * bN x := by
  rw [bval_app]; simp [bval]

theorem bval_take_succ (l : List Bool) (k : Nat) : bval (l.take (k + 1)) = bval (l.take k) + 2 ^ k * bN (bnth l k) := by
  by_cases h : k < l.length
  · rw [List.take_succ_eq_append_getElem h, bval_snoc, bnth_lt h, List.length_take, Nat.min_eq_left (by omega)]
  · rw [bnth_ge (by omega), List.take_of_length_le (by omega), List.take_of_length_le (by omega)]; simp [bN]

theorem bval_take_all {l : List Bool} {k : Nat} (h : l.length ≤ k) : bval (l.take k) = bval l := by rw [List.take_of_length_le h]

def BNorm (l : List Bool) : Prop := l.getLast? ≠ some false

theorem bits_bval (l : List Bool) (hn : BNorm l) : bitsN (bval l) = l := by
  induction l with
  | nil => rfl
  | cons x l ih =>
    have hx1 := bN_le x
    have hne : bval (x :: l) ≠ 0 := by
      intro h0
      unfold bval at h0
      have hx : x = false := by cases x <;> simp [bN] at h0 ⊢
      have hv : bval l = 0 := by omega
      cases l with
      | nil => apply hn; simp [hx]
      | cons y l =>
        have := ih (by unfold BNorm at hn ⊢; simpa using hn)
        rw [hv, bits_zero] at this
        simp at this
    rw [bits_pos _ hne]
    have e1 : bval (x :: l) % 2 = bN x := by rw [bval]; omega
    have e2 : bval (x :: l) / 2 = bval l := by rw [bval]; omega
    rw [e1, e2]
    have e3 : (bN x == 1) = x := by cases x <;> rfl
    rw [e3]
    cases l with
    | nil => rfl
    | cons y l => rw [ih (by unfold BNorm at hn ⊢; simpa using hn)]

theorem bits_trim (l : List Bool) (k : Nat) (hz : bval (l.drop k) = 0) (hn : BNorm (l.take k)) : bitsN (bval l) = l.take k := by
  rw [bval_take_drop l k, hz, Nat.mul_zero, Nat.add_zero]
  exact bits_bval _ hn

theorem bits_len_le (n k : Nat) (h : n < 2 ^ k) : (bitsN n).length ≤ k := by
  induction k generalizing n with
  | zero => have : n = 0 := by simpa using h
            subst this; exact Nat.le_refl _
  | succ k ih =>
    by_cases h0 : n = 0
    · subst h0; simp [bits_zero]
    · rw [bits_pos n h0, List.length_cons]
      have := ih (n / 2) (by rw [Nat.pow_succ] at h; omega)
      omega

theorem bits_lt_pow (n : Nat) : n < 2 ^ (bitsN n).length := by
  have := bval_lt (bitsN n)
  rw [bval_bits] at this; exact this

theorem pow_le_bits (n : Nat) (h : n ≠ 0) : 2 ^ ((bitsN n).length - 1) ≤ n := by
  induction n using Nat.strongRecOn with
  | _ n ih =>
    rw [bits_pos n h, List.length_cons, Nat.add_sub_cancel]
    by_cases h3 : n / 2 = 0
    · rw [h3, bits_zero]; simp; omega
    · have := ih (n / 2) (by omega) h3
      have hl : 1 ≤ (bitsN (n / 2)).length := by rw [bits_pos _ h3]; simp
      obtain ⟨m, hm⟩ : ∃ m, (bitsN (n / 2)).length = m + 1 := ⟨_, (Nat.sub_add_cancel hl).symm⟩
      rw [hm] at this ⊢
      rw [Nat.add_sub_cancel] at this
      rw [Nat.pow_succ]
      omega

theorem bits_eq_nil {n : Nat} : bitsN n = [] ↔ n = 0 := by
  constructor
  · intro h
    have := bval_bits n
    rw [h] at this; exact this.symm
  · rintro rfl; rfl

theorem bval_split (l : List Bool) (m : Nat) (h : m < l.length) : bval l = bval (l.take m) + 2 ^ m * (bN (bnth l m) + 2 * bval (l.drop (m + 1))) := by
  rw [bval_take_drop l m, List.length_take, Nat.min_eq_left (by omega), List.drop_eq_getElem_cons h, bval, bnth_lt h]

theorem bval_take_lt (l : List Bool) (m : Nat) : bval (l.take m) < 2 ^ m := by
  have := bval_lt (l.take m)
  rw [List.length_take] at this
  exact Nat.lt_of_lt_of_le this (Nat.pow_le_pow_right (by omega) (by omega))

theorem bnorm_take {l : List Bool} {k : Nat} (hk : k + 1 ≤ l.length) (h : bnth l k = true) : BNorm (l.take (k+1)) := by
  unfold BNorm
  rw [List.take_succ_eq_append_getElem (by omega), List.getLast?_append]
  rw [bnth_lt (by omega)] at h
  simp [h]

theorem bval_drop_step {l : List Bool} {k : Nat} (hk : k < l.length) (h : bnth l k = false) (hz : bval (l.drop (k+1)) = 0) : bval (l.drop k) = 0 := by
  rw [List.drop_eq_getElem_cons hk, bval, hz]
  rw [bnth_lt hk] at h
  rw [h]; rfl

/-- The carry of the addition, the borrow of the subtraction. -/
def carryB (x y c : Bool) : Bool := (x && y) || (x && c) || (y && c)
def borrowB (x y c : Bool) : Bool := (!x && y) || (!x && c) || (y && c)

theorem badd_step {o a b : List Bool} {k : Nat} {c : Bool} (hk : o.length = k)
    (h : bval o + 2 ^ k * bN c = bval (a.take k) + bval (b.take k)) :
    bval (o ++ [(bnth a k != bnth b k) != c]) + 2 ^ (k + 1) * bN (carryB (bnth a k) (bnth b k) c) = bval (a.take (k + 1)) + bval (b.take (k + 1)) := by
  rw [bval_snoc, hk, bval_take_succ a, bval_take_succ b, Nat.pow_succ, Nat.mul_assoc]
  have e : bN ((bnth a k != bnth b k) != c) + 2 * bN (carryB (bnth a k) (bnth b k) c) = bN (bnth a k) + bN (bnth b k) + bN c := by
    cases bnth a k <;> cases bnth b k <;> cases c <;> rfl
  have e2 := congrArg (fun x => 2 ^ k * x) e
  simp only [Nat.mul_add] at e2
  omega

theorem bsub_step {o a b : List Bool} {k : Nat} {c : Bool} (hk : o.length = k)
    (h : bval o + bval (b.take k) = bval (a.take k) + 2 ^ k * bN c) :
    bval (o ++ [(bnth a k != bnth b k) != c]) + bval (b.take (k + 1)) = bval (a.take (k + 1)) + 2 ^ (k + 1) * bN (borrowB (bnth a k) (bnth b k) c) := by
  rw [bval_snoc, hk, bval_take_succ a, bval_take_succ b, Nat.pow_succ, Nat.mul_assoc]
  have e : bN ((bnth a k != bnth b k) != c) + bN (bnth b k) + bN c = bN (bnth a k) + 2 * bN (borrowB (bnth a k) (bnth b k) c) := by
    cases bnth a k <;> cases bnth b k <;> cases c <;> rfl
  have e2 := congrArg (fun x => 2 ^ k * x) e
  simp only [Nat.mul_add] at e2
  omega

/-- Comparison from the top: where both agree from k on and differ at k. -/
theorem bcmp_lt {a b : List Bool} {k : Nat} (hd : ∀ j, k < j → bnth a j = bnth b j) (ha : bnth a k = false) (hb : bnth b k = true) : bval a < bval b := by
  have key : ∀ (n : Nat), bval (a.take (k + 1 + n)) + 2 ^ k ≤ bval (b.take (k + 1 + n)) + (bval (a.take k)) := by
    intro n
    induction n with
    | zero => rw [Nat.add_zero, bval_take_succ a, bval_take_succ b, ha, hb]; simp [bN]; omega
    | succ n ih =>
      rw [← Nat.add_assoc, bval_take_succ a, bval_take_succ b, hd (k + 1 + n) (by omega)]
      omega
  have h1 := key (a.length + b.length)
  rw [bval_take_all (l := a) (by omega), bval_take_all (l := b) (by omega)] at h1
  have h2 := bval_take_lt a k
  omega

theorem bcmp_eq {a b : List Bool} (hd : ∀ j, bnth a j = bnth b j) : bval a = bval b := by
  have key : ∀ n, bval (a.take n) = bval (b.take n) := by
    intro n
    induction n with
    | zero => rfl
    | succ n ih => rw [bval_take_succ a, bval_take_succ b, hd, ih]
  have := key (a.length + b.length)
  rw [bval_take_all (l := a) (by omega), bval_take_all (l := b) (by omega)] at this
  exact this

end Go.Proofs.Nums
