/- Contracts and plain facts, part 2: GN. No condition beyond those that each theorem states. -/
import Derived.Test.YtbnhgmikegdppaaGreatQA
import Derived.Lib.BitFns
/- Numbers as lists of limbs of 32 bits. No program in sight. -/
namespace Go.Proofs.Nums

def val : List Nat → Nat
  | [] => 0
  | x :: r => x + 4294967296 * val r

def limbsF : Nat → Nat → List Nat
  | 0, _ => []
  | f + 1, n => if n = 0 then [] else n % 4294967296 :: limbsF f (n / 4294967296)

def limbs (n : Nat) : List Nat := limbsF n n

/-- Each limb has 32 bits. -/
def Lim (l : List Nat) : Prop := ∀ x ∈ l, x < 4294967296

theorem Lim.nil : Lim [] := fun _ h => by simp at h
theorem Lim.tail {x : Nat} {l : List Nat} (h : Lim (x :: l)) : Lim l := fun y hy => h y (by simp [hy])
theorem Lim.head {x : Nat} {l : List Nat} (h : Lim (x :: l)) : x < 4294967296 := h x (by simp)
theorem Lim.cons {x : Nat} {l : List Nat} (h : x < 4294967296) (hl : Lim l) : Lim (x :: l) := fun y hy => by
  rw [List.mem_cons] at hy; rcases hy with rfl | hy
  · exact h
  · exact hl y hy
theorem Lim.app {a b : List Nat} (h : Lim a) (k : Lim b) : Lim (a ++ b) := fun y hy => by
  rw [List.mem_append] at hy; rcases hy with hy | hy
  · exact h y hy
  · exact k y hy
theorem Lim.take {l : List Nat} (h : Lim l) (n : Nat) : Lim (l.take n) := fun y hy => h y (List.mem_of_mem_take hy)
theorem Lim.drop {l : List Nat} (h : Lim l) (n : Nat) : Lim (l.drop n) := fun y hy => h y (List.mem_of_mem_drop hy)
theorem Lim.at {l : List Nat} (h : Lim l) (i : Nat) : l.getD i 0 < 4294967296 := by
  rw [List.getD_eq_getElem?_getD]
  cases hi : l[i]? with
  | none => simp
  | some y => simpa using h y (List.mem_of_getElem? hi)

/-- Limb i, 0 beyond the end. -/
def nth (l : List Nat) (i : Nat) : Nat := l.getD i 0

theorem nth_lt {l : List Nat} {i : Nat} (h : i < l.length) : nth l i = l[i] := by unfold nth; rw [List.getD_eq_getElem?_getD, List.getElem?_eq_getElem h]; rfl
theorem nth_ge {l : List Nat} {i : Nat} (h : l.length ≤ i) : nth l i = 0 := by unfold nth; rw [List.getD_eq_getElem?_getD, List.getElem?_eq_none h]; rfl
theorem Lim.nth {l : List Nat} (h : Lim l) (i : Nat) : nth l i < 4294967296 := h.at i

theorem limbsF_fuel : ∀ (f g n : Nat), n ≤ f → n ≤ g → limbsF f n = limbsF g n := by
  intro f
  induction f with
  | zero =>
    intro g n hf hg
    have : n = 0 := by omega
    subst this
    cases g <;> rfl
  | succ f ih =>
    intro g n hf hg
    cases g with
    | zero => have : n = 0 := by omega
              subst this; rfl
    | succ g =>
      unfold limbsF
      split
      · rfl
      · rw [ih g (n / 4294967296) (by omega) (by omega)]

theorem limbs_zero : limbs 0 = [] := rfl
theorem limbs_pos (n : Nat) (h : n ≠ 0) : limbs n = n % 4294967296 :: limbs (n / 4294967296) := by
  obtain ⟨m, rfl⟩ : ∃ m, n = m + 1 := ⟨n - 1, by omega⟩
  unfold limbs
  conv => lhs; unfold limbsF
  rw [if_neg h, limbsF_fuel m ((m + 1) / 4294967296) _ (by omega) (Nat.le_refl _)]

theorem val_limbs (n : Nat) : val (limbs n) = n := by
  induction n using Nat.strongRecOn with
  | _ n ih =>
    by_cases h : n = 0
    · subst h; rfl
    · rw [limbs_pos n h]
      unfold val
      rw [ih _ (by omega)]
      omega

theorem limbs_lim (n : Nat) : Lim (limbs n) := by
  induction n using Nat.strongRecOn with
  | _ n ih =>
    by_cases h : n = 0
    · subst h; exact Lim.nil
    · rw [limbs_pos n h]
      exact Lim.cons (Nat.mod_lt _ (by omega)) (ih _ (by omega))

theorem val_app (a b : List Nat) : val (a ++ b) = val a + 4294967296 ^ a.length * val b := by
  induction a with
  | nil => simp [val]
  | cons x a ih =>
    rw [List.cons_append, val, val, ih, List.length_cons, Nat.pow_succ, Nat.mul_add, Nat.add_assoc]
    congr 2
    rw [← Nat.mul_assoc, Nat.mul_comm 4294967296]

theorem val_lt (l : List Nat) (h : Lim l) : val l < 4294967296 ^ l.length := by
  induction l with
  | nil => simp [val]
  | cons x l ih =>
    have h1 := h.head
    have h2 := ih h.tail
    rw [val, List.length_cons, Nat.pow_succ]
    have : 4294967296 * (val l + 1) ≤ 4294967296 ^ l.length * 4294967296 := by rw [Nat.mul_comm]; exact Nat.mul_le_mul_right _ h2
    omega

theorem val_zeros (n : Nat) : val (List.replicate n 0) = 0 := by
  induction n with
  | zero => rfl
  | succ n ih => rw [List.replicate_succ, val, ih]

theorem val_take_drop (l : List Nat) (k : Nat) : val l = val (l.take k) + 4294967296 ^ (l.take k).length * val (l.drop k) := by
  conv => lhs; rw [← List.take_append_drop k l]
  exact val_app _ _

theorem val_snoc (l : List Nat) (x : Nat) : val (l ++ [x]) = val l + 4294967296 ^ l.length * x := by
  rw [val_app]; simp [val]

/-- No zero limb at the end. -/
def Norm (l : List Nat) : Prop := l.getLast? ≠ some 0

theorem limbs_val (l : List Nat) (h : Lim l) (hn : Norm l) : limbs (val l) = l := by
  induction l with
  | nil => rfl
  | cons x l ih =>
    have h1 := h.head
    have hne : val (x :: l) ≠ 0 := by
      intro h0
      unfold val at h0
      have hx : x = 0 := by omega
      have hv : val l = 0 := by omega
      cases l with
      | nil => apply hn; simp [hx]
      | cons y l =>
        have := ih h.tail (by unfold Norm at hn ⊢; simpa using hn)
        rw [hv, limbs_zero] at this
        simp at this
    rw [limbs_pos _ hne]
    have e1 : val (x :: l) % 4294967296 = x := by rw [val]; omega
    have e2 : val (x :: l) / 4294967296 = val l := by rw [val]; omega
    rw [e1, e2]
    cases l with
    | nil => rfl
    | cons y l => rw [ih h.tail (by unfold Norm at hn ⊢; simpa using hn)]

theorem limbs_norm (n : Nat) : Norm (limbs n) := by
  induction n using Nat.strongRecOn with
  | _ n ih =>
    by_cases h : n = 0
    · subst h; simp [limbs_zero, Norm]
    · rw [limbs_pos n h]
      have h2 := ih (n / 4294967296) (by omega)
      by_cases h3 : n / 4294967296 = 0
      · rw [h3, limbs_zero]; unfold Norm; simp; omega
      · rw [limbs_pos _ h3] at h2 ⊢
        unfold Norm at h2 ⊢
        simpa using h2

/-- Zeros at the end say nothing. -/
theorem limbs_trim (l : List Nat) (h : Lim l) (k : Nat) (hz : val (l.drop k) = 0) (hn : Norm (l.take k)) : limbs (val l) = l.take k := by
  rw [val_take_drop l k, hz, Nat.mul_zero, Nat.add_zero]
  exact limbs_val _ (h.take k) hn

theorem limbs_len_le (n k : Nat) (h : n < 4294967296 ^ k) : (limbs n).length ≤ k := by
  induction k generalizing n with
  | zero => have : n = 0 := by simpa using h
            subst this; exact Nat.le_refl _
  | succ k ih =>
    by_cases h0 : n = 0
    · subst h0; simp [limbs_zero]
    · rw [limbs_pos n h0, List.length_cons]
      have := ih (n / 4294967296) (by rw [Nat.pow_succ] at h; rw [Nat.div_lt_iff_lt_mul (by omega)]; exact h)
      omega

theorem limbs_lt_pow (n : Nat) : n < 4294967296 ^ (limbs n).length := by
  have := val_lt (limbs n) (limbs_lim n)
  rw [val_limbs] at this; exact this

theorem pow_le_limbs (n : Nat) (h : n ≠ 0) : 4294967296 ^ ((limbs n).length - 1) ≤ n := by
  induction n using Nat.strongRecOn with
  | _ n ih =>
    rw [limbs_pos n h, List.length_cons, Nat.add_sub_cancel]
    by_cases h3 : n / 4294967296 = 0
    · rw [h3, limbs_zero]; simp; omega
    · have := ih (n / 4294967296) (by omega) h3
      have hl : 1 ≤ (limbs (n / 4294967296)).length := by rw [limbs_pos _ h3]; simp
      obtain ⟨m, hm⟩ : ∃ m, (limbs (n / 4294967296)).length = m + 1 := ⟨_, (Nat.sub_add_cancel hl).symm⟩
      rw [hm] at this ⊢
      rw [Nat.add_sub_cancel] at this
      rw [Nat.pow_succ]
      calc 4294967296 ^ m * 4294967296 ≤ n / 4294967296 * 4294967296 := Nat.mul_le_mul_right _ this
        _ ≤ n := Nat.div_mul_le_self _ _

theorem limbs_eq_nil {n : Nat} : limbs n = [] ↔ n = 0 := by
  constructor
  · intro h
    have := val_limbs n
    rw [h] at this; exact this.symm
  · rintro rfl; rfl

theorem val_take_succ (l : List Nat) (k : Nat) : val (l.take (k + 1)) = val (l.take k) + 4294967296 ^ k * nth l k := by
  by_cases h : k < l.length
  · rw [List.take_succ_eq_append_getElem h, val_snoc, nth_lt h, List.length_take, Nat.min_eq_left (by omega)]
  · rw [nth_ge (by omega), List.take_of_length_le (by omega), List.take_of_length_le (by omega)]; simp

theorem val_take_all {l : List Nat} {k : Nat} (h : l.length ≤ k) : val (l.take k) = val l := by rw [List.take_of_length_le h]

theorem take_set_lt {l : List Nat} {k j x : Nat} (h : k ≤ j) : (l.set j x).take k = l.take k := by
  rw [List.take_set]
  rw [List.set_eq_of_length_le (by rw [List.length_take]; omega)]

theorem val_take_set (l : List Nat) (k x : Nat) (h : k < l.length) : val ((l.set k x).take (k + 1)) = val (l.take k) + 4294967296 ^ k * x := by
  rw [val_take_succ, take_set_lt (Nat.le_refl _), nth_lt (by rw [List.length_set]; exact h)]
  simp

theorem Lim.set {l : List Nat} (h : Lim l) (k x : Nat) (hx : x < 4294967296) : Lim (l.set k x) := fun y hy => by
  rcases List.mem_or_eq_of_mem_set hy with h1 | h1
  · exact h y h1
  · rw [h1]; exact hx

theorem Lim.zeros (n : Nat) : Lim (List.replicate n 0) := fun y hy => by
  rw [List.mem_replicate] at hy; rw [hy.2]; omega

/-- One step of the addition. -/
theorem add_step {o a b : List Nat} {k c s : Nat} (hk : k < o.length) (hs : s = nth a k + nth b k + c)
    (h : val (o.take k) + 4294967296 ^ k * c = val (a.take k) + val (b.take k)) :
    val ((o.set k (s % 4294967296)).take (k + 1)) + 4294967296 ^ (k + 1) * (s / 4294967296) = val (a.take (k + 1)) + val (b.take (k + 1)) := by
  rw [val_take_set _ _ _ hk, val_take_succ a, val_take_succ b, Nat.pow_succ, Nat.mul_assoc, Nat.add_assoc, ← Nat.mul_add, Nat.mod_add_div, hs, Nat.mul_add, Nat.mul_add]
  omega

theorem nth_set_self {l : List Nat} {k x : Nat} (h : k < l.length) : nth (l.set k x) k = x := by rw [nth_lt (by simpa using h)]; simp
theorem nth_set_ne {l : List Nat} {k j x : Nat} (h : j ≠ k) : nth (l.set k x) j = nth l j := by
  unfold nth; rw [List.getD_eq_getElem?_getD, List.getD_eq_getElem?_getD, List.getElem?_set_ne (fun e => h e.symm)]

def cmpN (m n : Nat) : Int := if m < n then -1 else if n < m then 1 else 0

theorem cmpN_lt {m n : Nat} (h : m < n) : cmpN m n = -1 := by unfold cmpN; rw [if_pos h]
theorem cmpN_gt {m n : Nat} (h : n < m) : cmpN m n = 1 := by unfold cmpN; rw [if_neg (by omega), if_pos h]
theorem cmpN_eq {m n : Nat} (h : m = n) : cmpN m n = 0 := by unfold cmpN; rw [if_neg (by omega), if_neg (by omega)]

theorem len_lt {m n : Nat} (h : (limbs m).length < (limbs n).length) : m < n := by
  have h1 := limbs_lt_pow m
  have h0 : n ≠ 0 := by intro h0; rw [h0, limbs_zero] at h; simp at h
  have h2 := pow_le_limbs n h0
  have h3 : 4294967296 ^ (limbs m).length ≤ 4294967296 ^ ((limbs n).length - 1) := Nat.pow_le_pow_right (by omega) (by omega)
  omega

theorem val_split (l : List Nat) (m : Nat) (h : m < l.length) : val l = val (l.take m) + 4294967296 ^ m * (nth l m + 4294967296 * val (l.drop (m + 1))) := by
  rw [val_take_drop l m, List.length_take, Nat.min_eq_left (by omega), List.drop_eq_getElem_cons h, val, nth_lt h]

theorem val_take_lt (l : List Nat) (h : Lim l) (m : Nat) (hm : m ≤ l.length) : val (l.take m) < 4294967296 ^ m := by
  have := val_lt (l.take m) (h.take m)
  rw [List.length_take, Nat.min_eq_left hm] at this; exact this

theorem val_lt_of {x y : List Nat} {m : Nat} (hx : Lim x) (hm : m < x.length) (hm' : m < y.length) (hd : x.drop (m + 1) = y.drop (m + 1)) (h : nth x m < nth y m) : val x < val y := by
  rw [val_split x m hm, val_split y m hm', hd]
  have h1 := val_take_lt x hx m (by omega)
  have h2 : 4294967296 ^ m * (nth x m + 4294967296 * val (y.drop (m + 1)) + 1) ≤ 4294967296 ^ m * (nth y m + 4294967296 * val (y.drop (m + 1))) := Nat.mul_le_mul_left _ (by omega)
  rw [Nat.mul_add, Nat.mul_one] at h2
  omega

theorem drop_eq_step {x y : List Nat} {m : Nat} (hm : m < x.length) (hm' : m < y.length) (hd : x.drop (m + 1) = y.drop (m + 1)) (h : nth x m = nth y m) : x.drop m = y.drop m := by
  rw [List.drop_eq_getElem_cons hm, List.drop_eq_getElem_cons hm', hd, ← nth_lt hm, ← nth_lt hm', h]

/-- One step of the subtraction. -/
theorem sub_step {o a b : List Nat} {k c s : Nat} (hk : k < o.length) (hs : s + nth b k + c = 4294967296 + nth a k)
    (h : val (o.take k) + val (b.take k) = val (a.take k) + 4294967296 ^ k * c) (hc : s / 4294967296 ≤ 1) :
    val ((o.set k (s % 4294967296)).take (k + 1)) + val (b.take (k + 1)) = val (a.take (k + 1)) + 4294967296 ^ (k + 1) * (1 - s / 4294967296) := by
  rw [val_take_set _ _ _ hk, val_take_succ a, val_take_succ b, Nat.pow_succ, Nat.mul_assoc]
  have e : s % 4294967296 + nth b k + c = nth a k + 4294967296 * (1 - s / 4294967296) := by omega
  have e2 := congrArg (fun x => 4294967296 ^ k * x) e
  simp only [Nat.mul_add] at e2
  omega

theorem val_set (l : List Nat) (k x : Nat) (h : k < l.length) : val (l.set k x) + 4294967296 ^ k * nth l k = val l + 4294967296 ^ k * x := by
  have e1 := val_split (l.set k x) k (by rw [List.length_set]; exact h)
  have e2 := val_split l k h
  rw [take_set_lt (Nat.le_refl _), nth_set_self h, List.drop_set_of_lt (by omega)] at e1
  rw [e1, e2, Nat.mul_add, Nat.mul_add]
  omega

/-- One step of the inner loop of the multiplication: at (i, j). -/
theorem mul_step {o y : List Nat} {i j x c s D : Nat} (hk : i + j < o.length) (hs : s = x * nth y j + nth o (i + j) + c)
    (h : val o + 4294967296 ^ (i + j) * c = D + 4294967296 ^ i * (x * val (y.take j))) :
    val (o.set (i + j) (s % 4294967296)) + 4294967296 ^ (i + (j + 1)) * (s / 4294967296) = D + 4294967296 ^ i * (x * val (y.take (j + 1))) := by
  have e := val_set o (i + j) (s % 4294967296) hk
  rw [val_take_succ y, ← Nat.add_assoc, Nat.pow_succ 4294967296 (i + j), Nat.mul_assoc (4294967296 ^ (i + j))]
  have e3 : 4294967296 ^ (i + j) * (4294967296 * (s / 4294967296)) + 4294967296 ^ (i + j) * (s % 4294967296) = 4294967296 ^ (i + j) * s := by
    rw [← Nat.mul_add]; congr 1; omega
  have e4 : 4294967296 ^ (i + j) * s = 4294967296 ^ i * (x * (4294967296 ^ j * nth y j)) + 4294967296 ^ (i + j) * nth o (i + j) + 4294967296 ^ (i + j) * c := by
    rw [hs, Nat.mul_add, Nat.mul_add, Nat.pow_add]
    congr 2
    rw [Nat.mul_assoc, Nat.mul_left_comm x]
  rw [Nat.mul_add x, Nat.mul_add (4294967296 ^ i)]
  omega

end Go.Proofs.Nums

/- Numbers as lists of limbs, second part. -/
namespace Go.Proofs.Nums

theorem nth_zero {l : List Nat} {j : Nat} (h : val l < 4294967296 ^ j) : nth l j = 0 := by
  by_cases hj : j < l.length
  · rw [val_split l j hj, Nat.mul_add] at h
    rcases Nat.eq_zero_or_pos (nth l j) with h0 | h0
    · exact h0
    · have : 4294967296 ^ j * 1 ≤ 4294967296 ^ j * nth l j := Nat.mul_le_mul_left _ h0
      omega
  · exact nth_ge (by omega)

/-- The end of a round of the multiplication. -/
theorem mul_end {o x y : List Nat} {k c : Nat} (hk : k + y.length < o.length) (hz : nth o (k + y.length) = 0)
    (h : val o + 4294967296 ^ (k + y.length) * c = val (x.take k) * val y + 4294967296 ^ k * (nth x k * val (y.take y.length))) :
    val (o.set (k + y.length) c) = val (x.take (k + 1)) * val y := by
  have e := val_set o (k + y.length) c hk
  rw [hz, Nat.mul_zero, Nat.add_zero, h, List.take_length] at e
  rw [e, val_take_succ, Nat.add_mul, Nat.mul_assoc]

end Go.Proofs.Nums

/- Numbers in binary. No program in sight. -/
namespace Go.Proofs.Nums

def bN (b : Bool) : Nat := if b then 1 else 0
theorem bN_le (b : Bool) : bN b ≤ 1 := by cases b <;> decide

def bval : List Bool → Nat
  | [] => 0
  | b :: r => bN b + 2 * bval r

def bitsF : Nat → Nat → List Bool
  | 0, _ => []
  | f + 1, n => if n = 0 then [] else (n % 2 == 1) :: bitsF f (n / 2)

def bitsN (n : Nat) : List Bool := bitsF n n

/-- Bit i, false beyond the end. -/
def bnth (l : List Bool) (i : Nat) : Bool := l.getD i false
theorem bnth_lt {l : List Bool} {i : Nat} (h : i < l.length) : bnth l i = l[i] := by unfold bnth; rw [List.getD_eq_getElem?_getD, List.getElem?_eq_getElem h]; rfl
theorem bnth_ge {l : List Bool} {i : Nat} (h : l.length ≤ i) : bnth l i = false := by unfold bnth; rw [List.getD_eq_getElem?_getD, List.getElem?_eq_none h]; rfl

theorem bitsF_fuel : ∀ (f g n : Nat), n ≤ f → n ≤ g → bitsF f n = bitsF g n := by
  intro f
  induction f with
  | zero =>
    intro g n hf hg
    have : n = 0 := by omega
    subst this
    cases g <;> rfl
  | succ f ih =>
    intro g n hf hg
    cases g with
    | zero => have : n = 0 := by omega
              subst this; rfl
    | succ g =>
      unfold bitsF
      split
      · rfl
      · rw [ih g (n / 2) (by omega) (by omega)]

theorem bits_zero : bitsN 0 = [] := rfl
theorem bits_pos (n : Nat) (h : n ≠ 0) : bitsN n = (n % 2 == 1) :: bitsN (n / 2) := by
  obtain ⟨m, rfl⟩ : ∃ m, n = m + 1 := ⟨n - 1, by omega⟩
  unfold bitsN
  conv => lhs; unfold bitsF
  rw [if_neg h, bitsF_fuel m ((m + 1) / 2) _ (by omega) (Nat.le_refl _)]

theorem bval_bits (n : Nat) : bval (bitsN n) = n := by
  induction n using Nat.strongRecOn with
  | _ n ih =>
    by_cases h : n = 0
    · subst h; rfl
    · rw [bits_pos n h, bval, ih _ (by omega)]
      by_cases h2 : n % 2 = 1
      · simp [bN, h2]; omega
      · simp [bN, h2]; omega

theorem bval_app (a b : List Bool) : bval (a ++ b) = bval a + 2 ^ a.length * bval b := by
  induction a with
  | nil => simp [bval]
  | cons x a ih =>
    rw [List.cons_append, bval, bval, ih, List.length_cons, Nat.pow_succ, Nat.mul_add, Nat.add_assoc]
    congr 2
    rw [← Nat.mul_assoc, Nat.mul_comm 2]

theorem bval_lt (l : List Bool) : bval l < 2 ^ l.length := by
  induction l with
  | nil => simp [bval]
  | cons x l ih =>
    have := bN_le x
    rw [bval, List.length_cons, Nat.pow_succ]; omega

theorem bval_zeros (n : Nat) : bval (List.replicate n false) = 0 := by
  induction n with
  | zero => rfl
  | succ n ih => rw [List.replicate_succ, bval, ih]; rfl

theorem bval_take_drop (l : List Bool) (k : Nat) : bval l = bval (l.take k) + 2 ^ (l.take k).length * bval (l.drop k) := by
  conv => lhs; rw [← List.take_append_drop k l]
  exact bval_app _ _

theorem bval_snoc (l : List Bool) (x : Bool) : bval (l ++ [x]) = bval l + 2 ^ l.length * bN x := by
  rw [bval_app]; simp [bval]

theorem bval_take_succ (l : List Bool) (k : Nat) : bval (l.take (k + 1)) = bval (l.take k) + 2 ^ k * bN (bnth l k) := by
  by_cases h : k < l.length
  · rw [List.take_succ_eq_append_getElem h, bval_snoc, bnth_lt h, List.length_take, Nat.min_eq_left (by omega)]
  · rw [bnth_ge (by omega), List.take_of_length_le (by omega), List.take_of_length_le (by omega)]; simp [bN]

theorem bval_take_all {l : List Bool} {k : Nat} (h : l.length ≤ k) : bval (l.take k) = bval l := by rw [List.take_of_length_le h]

def BNorm (l : List Bool) : Prop := l.getLast? ≠ some false

theorem bits_bval (l : List Bool) (hn : BNorm l) : bitsN (bval l) = l := by
  induction l with
  | nil => rfl
  | cons x l ih =>
    have hx1 := bN_le x
    have hne : bval (x :: l) ≠ 0 := by
      intro h0
      unfold bval at h0
      have hx : x = false := by cases x <;> simp [bN] at h0 ⊢
      have hv : bval l = 0 := by omega
      cases l with
      | nil => apply hn; simp [hx]
      | cons y l =>
        have := ih (by unfold BNorm at hn ⊢; simpa using hn)
        rw [hv, bits_zero] at this
        simp at this
    rw [bits_pos _ hne]
    have e1 : bval (x :: l) % 2 = bN x := by rw [bval]; omega
    have e2 : bval (x :: l) / 2 = bval l := by rw [bval]; omega
    rw [e1, e2]
    have e3 : (bN x == 1) = x := by cases x <;> rfl
    rw [e3]
    cases l with
    | nil => rfl
    | cons y l => rw [ih (by unfold BNorm at hn ⊢; simpa using hn)]

theorem bits_trim (l : List Bool) (k : Nat) (hz : bval (l.drop k) = 0) (hn : BNorm (l.take k)) : bitsN (bval l) = l.take k := by
  rw [bval_take_drop l k, hz, Nat.mul_zero, Nat.add_zero]
  exact bits_bval _ hn

theorem bits_len_le (n k : Nat) (h : n < 2 ^ k) : (bitsN n).length ≤ k := by
  induction k generalizing n with
  | zero => have : n = 0 := by simpa using h
            subst this; exact Nat.le_refl _
  | succ k ih =>
    by_cases h0 : n = 0
    · subst h0; simp [bits_zero]
    · rw [bits_pos n h0, List.length_cons]
      have := ih (n / 2) (by rw [Nat.pow_succ] at h; omega)
      omega

theorem bits_lt_pow (n : Nat) : n < 2 ^ (bitsN n).length := by
  have := bval_lt (bitsN n)
  rw [bval_bits] at this; exact this

theorem pow_le_bits (n : Nat) (h : n ≠ 0) : 2 ^ ((bitsN n).length - 1) ≤ n := by
  induction n using Nat.strongRecOn with
  | _ n ih =>
    rw [bits_pos n h, List.length_cons, Nat.add_sub_cancel]
    by_cases h3 : n / 2 = 0
    · rw [h3, bits_zero]; simp; omega
    · have := ih (n / 2) (by omega) h3
      have hl : 1 ≤ (bitsN (n / 2)).length := by rw [bits_pos _ h3]; simp
      obtain ⟨m, hm⟩ : ∃ m, (bitsN (n / 2)).length = m + 1 := ⟨_, (Nat.sub_add_cancel hl).symm⟩
      rw [hm] at this ⊢
      rw [Nat.add_sub_cancel] at this
      rw [Nat.pow_succ]
      omega

theorem bits_eq_nil {n : Nat} : bitsN n = [] ↔ n = 0 := by
  constructor
  · intro h
    have := bval_bits n
    rw [h] at this; exact this.symm
  · rintro rfl; rfl

theorem bval_split (l : List Bool) (m : Nat) (h : m < l.length) : bval l = bval (l.take m) + 2 ^ m * (bN (bnth l m) + 2 * bval (l.drop (m + 1))) := by
  rw [bval_take_drop l m, List.length_take, Nat.min_eq_left (by omega), List.drop_eq_getElem_cons h, bval, bnth_lt h]

theorem bval_take_lt (l : List Bool) (m : Nat) : bval (l.take m) < 2 ^ m := by
  have := bval_lt (l.take m)
  rw [List.length_take] at this
  exact Nat.lt_of_lt_of_le this (Nat.pow_le_pow_right (by omega) (by omega))

theorem bnorm_take {l : List Bool} {k : Nat} (hk : k + 1 ≤ l.length) (h : bnth l k = true) : BNorm (l.take (k+1)) := by
  unfold BNorm
  rw [List.take_succ_eq_append_getElem (by omega), List.getLast?_append]
  rw [bnth_lt (by omega)] at h
  simp [h]

theorem bval_drop_step {l : List Bool} {k : Nat} (hk : k < l.length) (h : bnth l k = false) (hz : bval (l.drop (k+1)) = 0) : bval (l.drop k) = 0 := by
  rw [List.drop_eq_getElem_cons hk, bval, hz]
  rw [bnth_lt hk] at h
  rw [h]; rfl

/-- The carry of the addition, the borrow of the subtraction. -/
def carryB (x y c : Bool) : Bool := (x && y) || (x && c) || (y && c)
def borrowB (x y c : Bool) : Bool := (!x && y) || (!x && c) || (y && c)

theorem badd_step {o a b : List Bool} {k : Nat} {c : Bool} (hk : o.length = k)
    (h : bval o + 2 ^ k * bN c = bval (a.take k) + bval (b.take k)) :
    bval (o ++ [(bnth a k != bnth b k) != c]) + 2 ^ (k + 1) * bN (carryB (bnth a k) (bnth b k) c) = bval (a.take (k + 1)) + bval (b.take (k + 1)) := by
  rw [bval_snoc, hk, bval_take_succ a, bval_take_succ b, Nat.pow_succ, Nat.mul_assoc]
  have e : bN ((bnth a k != bnth b k) != c) + 2 * bN (carryB (bnth a k) (bnth b k) c) = bN (bnth a k) + bN (bnth b k) + bN c := by
    cases bnth a k <;> cases bnth b k <;> cases c <;> rfl
  have e2 := congrArg (fun x => 2 ^ k * x) e
  simp only [Nat.mul_add] at e2
  omega

theorem bsub_step {o a b : List Bool} {k : Nat} {c : Bool} (hk : o.length = k)
    (h : bval o + bval (b.take k) = bval (a.take k) + 2 ^ k * bN c) :
    bval (o ++ [(bnth a k != bnth b k) != c]) + bval (b.take (k + 1)) = bval (a.take (k + 1)) + 2 ^ (k + 1) * bN (borrowB (bnth a k) (bnth b k) c) := by
  rw [bval_snoc, hk, bval_take_succ a, bval_take_succ b, Nat.pow_succ, Nat.mul_assoc]
  have e : bN ((bnth a k != bnth b k) != c) + bN (bnth b k) + bN c = bN (bnth a k) + 2 * bN (borrowB (bnth a k) (bnth b k) c) := by
    cases bnth a k <;> cases bnth b k <;> cases c <;> rfl
  have e2 := congrArg (fun x => 2 ^ k * x) e
  simp only [Nat.mul_add] at e2
  omega

/-- Comparison from the top: where both agree from k on and differ at k. -/
theorem bcmp_lt {a b : List Bool} {k : Nat} (hd : ∀ j, k < j → bnth a j = bnth b j) (ha : bnth a k = false) (hb : bnth b k = true) : bval a < bval b := by
  have key : ∀ (n : Nat), bval (a.take (k + 1 + n)) + 2 ^ k ≤ bval (b.take (k + 1 + n)) + (bval (a.take k)) := by
    intro n
    induction n with
    | zero => rw [Nat.add_zero, bval_take_succ a, bval_take_succ b, ha, hb]; simp [bN]; omega
    | succ n ih =>
      rw [← Nat.add_assoc, bval_take_succ a, bval_take_succ b, hd (k + 1 + n) (by omega)]
      omega
  have h1 := key (a.length + b.length)
  rw [bval_take_all (l := a) (by omega), bval_take_all (l := b) (by omega)] at h1
  have h2 := bval_take_lt a k
  omega

theorem bcmp_eq {a b : List Bool} (hd : ∀ j, bnth a j = bnth b j) : bval a = bval b := by
  have key : ∀ n, bval (a.take n) = bval (b.take n) := by
    intro n
    induction n with
    | zero => rfl
    | succ n ih => rw [bval_take_succ a, bval_take_succ b, hd, ih]
  have := key (a.length + b.length)
  rw [bval_take_all (l := a) (by omega), bval_take_all (l := b) (by omega)] at this
  exact this

end Go.Proofs.Nums

/- Limbs and bits: the steps of From and To. No program in sight. -/
namespace Go.Proofs.Nums

theorem base_pow (i : Nat) : 4294967296 ^ i = 2 ^ (32 * i) := by
  rw [Nat.pow_mul]

theorem from_step {o : List Bool} {a : List Nat} {i k : Nat} {b : Bool} (hol : o.length = 32 * i + k) (hb : bN b = nth a i / 2 ^ k % 2)
    (hP : bval o = val (a.take i) + 2 ^ (32 * i) * (nth a i % 2 ^ k)) : bval (o ++ [b]) = val (a.take i) + 2 ^ (32 * i) * (nth a i % 2 ^ (k + 1)) := by
  rw [bval_snoc, hol, hP, hb, Nat.mod_pow_succ, Nat.mul_add, Nat.pow_add, Nat.mul_assoc, Nat.add_assoc]

theorem from_end {o : List Bool} {a : List Nat} {i : Nat} (hx : nth a i < 4294967296)
    (hP : bval o = val (a.take i) + 2 ^ (32 * i) * (nth a i % 2 ^ 32)) : bval o = val (a.take (i + 1)) + 2 ^ (32 * (i + 1)) * (nth a (i + 1) % 2 ^ 0) := by
  rw [hP, val_take_succ, Nat.mod_eq_of_lt (by omega), base_pow, Nat.pow_zero, Nat.mod_one, Nat.mul_zero, Nat.add_zero]

theorem nth_bound {o : List Nat} {q m : Nat} (hq : q < o.length) (h : val o < 4294967296 ^ q * m) : nth o q < m := by
  rw [val_split o q hq] at h
  have h1 : 4294967296 ^ q * nth o q < 4294967296 ^ q * m := by
    rw [Nat.mul_add] at h
    omega
  exact Nat.lt_of_mul_lt_mul_left h1

theorem to_lt {o : List Nat} {x : List Bool} {i : Nat} (hq : i / 32 < o.length) (hP : val o = bval (x.take i)) : nth o (i / 32) < 2 ^ (i % 32) := by
  apply nth_bound hq
  rw [hP, base_pow, ← Nat.pow_add, Nat.div_add_mod]
  exact bval_take_lt x i

theorem or_add {x r : Nat} (h : x < 2 ^ r) : x ||| 2 ^ r = x + 2 ^ r := by
  have := Nat.two_pow_add_eq_or_of_lt h 1
  rw [Nat.mul_one, Nat.or_comm] at this
  omega

theorem to_step {o : List Nat} {x : List Bool} {i : Nat} (hq : i / 32 < o.length) (hb : bnth x i = true) (hP : val o = bval (x.take i)) :
    val (o.set (i / 32) (nth o (i / 32) + 2 ^ (i % 32))) = bval (x.take (i + 1)) := by
  have h := val_set o (i / 32) (nth o (i / 32) + 2 ^ (i % 32)) hq
  rw [bval_take_succ, ← hP, hb]
  rw [Nat.mul_add, base_pow, ← Nat.pow_add, Nat.div_add_mod] at h
  simp only [bN, if_true, Nat.mul_one]
  omega

theorem to_skip {o : List Nat} {x : List Bool} {i : Nat} (hb : bnth x i = false) (hP : val o = bval (x.take i)) : val o = bval (x.take (i + 1)) := by
  rw [bval_take_succ, hb, hP]; simp [bN]

theorem to_lim {x r : Nat} (h : x < 2 ^ r) (hr : r < 32) : x + 2 ^ r < 4294967296 := by
  have h1 : 2 ^ (r + 1) ≤ 2 ^ 32 := Nat.pow_le_pow_right (by omega) (by omega)
  have h2 : 2 ^ (r + 1) = 2 ^ r * 2 := Nat.pow_succ ..
  omega

theorem pow_lt32 {r : Nat} (hr : r < 32) : 2 ^ r < 4294967296 := by
  have h1 : 2 ^ r < 2 ^ 32 := Nat.pow_lt_pow_right (by omega) hr
  omega

theorem norm_of_ge {o : List Nat} (hl : Lim o) (h : o.length = 0 ∨ 4294967296 ^ (o.length - 1) ≤ val o) : Norm o := by
  intro he
  rcases h with h | h
  · have : o = [] := List.length_eq_zero_iff.1 h
    subst this; simp at he
  · obtain ⟨y, rfl⟩ := List.getLast?_eq_some_iff.1 he
    rw [val_snoc, Nat.mul_zero, Nat.add_zero, List.length_append, List.length_singleton, Nat.add_sub_cancel] at h
    have := val_lt y (fun z hz => hl z (by simp [hz]))
    omega

theorem to_end {o : List Nat} {n : Nat} (hl : Lim o) (hlen : o.length = ((bitsN n).length + 31) / 32) (hP : val o = n) : o = limbs n := by
  rw [← hP]
  refine (limbs_val o hl (norm_of_ge hl ?_)).symm
  by_cases h0 : n = 0
  · left; rw [hlen, h0, bits_zero]; rfl
  · right
    rw [hP, base_pow]
    refine Nat.le_trans (Nat.pow_le_pow_right (by omega) ?_) (pow_le_bits n h0)
    omega

end Go.Proofs.Nums

/- Bytes: reversal, the zeros ahead. No program in sight. -/
namespace Go.Proofs.Nums

def bat (l : List UInt8) (p : Nat) : UInt8 := l.getD p 0
theorem bat_lt {l : List UInt8} {i : Nat} (h : i < l.length) : bat l i = l[i] := by unfold bat; rw [List.getD_eq_getElem?_getD, List.getElem?_eq_getElem h]; rfl

def swapB (l : List UInt8) (i j : Nat) : List UInt8 := (l.set i (bat l j)).set j (bat l i)

theorem swapB_len (l : List UInt8) (i j : Nat) : (swapB l i j).length = l.length := by unfold swapB; simp

theorem swapB_at {l : List UInt8} {i j p : Nat} (hi : i < l.length) (hj : j < l.length) (hp : p < l.length) :
    bat (swapB l i j) p = if p = j then bat l i else if p = i then bat l j else bat l p := by
  rw [bat_lt (by rw [swapB_len]; exact hp)]
  unfold swapB
  simp only [List.getElem_set]
  by_cases h1 : p = j
  · subst h1; simp
  · by_cases h2 : p = i
    · subst h2; simp [h1, Ne.symm h1]
    · rw [if_neg (Ne.symm h1), if_neg (Ne.symm h2), if_neg h1, if_neg h2, bat_lt hp]

/-- k steps of the reversal. -/
def Rev (xs ys : List UInt8) (k : Nat) : Prop := ys.length = xs.length ∧ ∀ p, p < xs.length → bat ys p = if p < k ∨ xs.length ≤ p + k then bat xs (xs.length - 1 - p) else bat xs p

theorem Rev.start (xs : List UInt8) : Rev xs xs 0 := ⟨rfl, fun p hp => by rw [if_neg (by omega)]⟩

theorem Rev.step {xs ys : List UInt8} {k : Nat} (h : Rev xs ys k) (hk : 2 * k + 1 < xs.length) : Rev xs (swapB ys k (xs.length - 1 - k)) (k + 1) := by
  obtain ⟨hl, hh⟩ := h
  refine ⟨by rw [swapB_len, hl], fun p hp => ?_⟩
  rw [swapB_at (by omega) (by omega) (by omega), hh k (by omega), hh _ (by omega), hh p hp]
  rw [if_neg (by omega : ¬ (k < k ∨ xs.length ≤ k + k)), if_neg (by omega : ¬ (xs.length - 1 - k < k ∨ xs.length ≤ xs.length - 1 - k + k))]
  by_cases h1 : p = xs.length - 1 - k
  · rw [if_pos h1, if_pos (by omega)]; congr 1; omega
  · rw [if_neg h1]
    by_cases h2 : p = k
    · rw [if_pos h2, if_pos (by omega)]; congr 1; omega
    · rw [if_neg h2]
      by_cases h3 : p < k ∨ xs.length ≤ p + k
      · rw [if_pos h3, if_pos (by omega)]
      · rw [if_neg h3, if_neg (by omega)]

theorem Rev.done {xs ys : List UInt8} {k : Nat} (h : Rev xs ys k) (hk : ¬ 2 * k + 1 < xs.length) : ys = xs.reverse := by
  obtain ⟨hl, hh⟩ := h
  refine List.ext_getElem (by simp [hl]) fun p h1 h2 => ?_
  have := hh p (by omega)
  rw [← bat_lt, this, List.getElem_reverse, ← bat_lt (i := xs.length - 1 - p)]
  by_cases h3 : p < k ∨ xs.length ≤ p + k
  · rw [if_pos h3]
  · rw [if_neg h3]; congr 1; omega

end Go.Proofs.Nums

/- Decimal digits. Division by one limb. No program in sight. -/
namespace Go.Proofs.Nums

def decF : Nat → Nat → List Nat
  | 0, _ => []
  | f + 1, n => if n = 0 then [] else n % 10 :: decF f (n / 10)

def decL (n : Nat) : List Nat := decF n n

def dval : List Nat → Nat
  | [] => 0
  | d :: r => d + 10 * dval r

def digB (d : Nat) : UInt8 := UInt8.ofNat (48 + d)

/-- The decimal text of n. -/
def decB (n : Nat) : List UInt8 := if n = 0 then [48] else ((decL n).map digB).reverse

theorem decF_fuel : ∀ (f g n : Nat), n ≤ f → n ≤ g → decF f n = decF g n := by
  intro f
  induction f with
  | zero =>
    intro g n hf hg
    have : n = 0 := by omega
    subst this
    cases g <;> rfl
  | succ f ih =>
    intro g n hf hg
    cases g with
    | zero => have : n = 0 := by omega
              subst this; rfl
    | succ g =>
      unfold decF
      split
      · rfl
      · rw [ih g (n / 10) (by omega) (by omega)]

theorem decL_zero : decL 0 = [] := rfl
theorem decL_pos (n : Nat) (h : n ≠ 0) : decL n = n % 10 :: decL (n / 10) := by
  obtain ⟨m, rfl⟩ : ∃ m, n = m + 1 := ⟨n - 1, by omega⟩
  unfold decL
  conv => lhs; unfold decF
  rw [if_neg h, decF_fuel m ((m + 1) / 10) _ (by omega) (Nat.le_refl _)]

theorem dval_dec (n : Nat) : dval (decL n) = n := by
  induction n using Nat.strongRecOn with
  | _ n ih =>
    by_cases h : n = 0
    · subst h; rfl
    · rw [decL_pos n h, dval, ih _ (by omega)]; omega

def Dig (l : List Nat) : Prop := ∀ x ∈ l, x < 10
theorem Dig.nil : Dig [] := fun _ h => by simp at h
theorem Dig.snoc {l : List Nat} {d : Nat} (h : Dig l) (hd : d < 10) : Dig (l ++ [d]) := fun y hy => by
  rcases List.mem_append.1 hy with h1 | h1
  · exact h y h1
  · simp at h1; omega

theorem dec_dig (n : Nat) : Dig (decL n) := by
  induction n using Nat.strongRecOn with
  | _ n ih =>
    by_cases h : n = 0
    · subst h; exact Dig.nil
    · rw [decL_pos n h]
      intro y hy
      rcases List.mem_cons.1 hy with h1 | h1
      · omega
      · exact ih _ (by omega) y h1

theorem dval_snoc (l : List Nat) (x : Nat) : dval (l ++ [x]) = dval l + 10 ^ l.length * x := by
  induction l with
  | nil => simp [dval]
  | cons y l ih => rw [List.cons_append, dval, dval, ih, List.length_cons, Nat.pow_succ, Nat.mul_add, Nat.add_assoc]; congr 2; rw [← Nat.mul_assoc, Nat.mul_comm 10]

theorem dec_dval (l : List Nat) (h : Dig l) (hn : l.getLast? ≠ some 0) : decL (dval l) = l := by
  induction l with
  | nil => rfl
  | cons x l ih =>
    have hx := h x (by simp)
    have hl : Dig l := fun y hy => h y (by simp [hy])
    have hne : dval (x :: l) ≠ 0 := by
      intro h0
      unfold dval at h0
      have hx : x = 0 := by omega
      have hv : dval l = 0 := by omega
      cases l with
      | nil => apply hn; simp [hx]
      | cons y l =>
        have := ih hl (by simpa using hn)
        rw [hv, decL_zero] at this
        simp at this
    rw [decL_pos _ hne]
    have e1 : dval (x :: l) % 10 = x := by rw [dval]; omega
    have e2 : dval (x :: l) / 10 = dval l := by rw [dval]; omega
    rw [e1, e2]
    cases l with
    | nil => rfl
    | cons y l => rw [ih hl (by simpa using hn)]

theorem digB_ne {d : Nat} (h : d < 10) (h0 : d ≠ 0) : digB d ≠ 48 := by
  match d, h, h0 with
  | 1, _, _ => decide
  | 2, _, _ => decide
  | 3, _, _ => decide
  | 4, _, _ => decide
  | 5, _, _ => decide
  | 6, _, _ => decide
  | 7, _, _ => decide
  | 8, _, _ => decide
  | 9, _, _ => decide

theorem digB_nat {d : Nat} (h : d < 10) : (digB d).toNat = 48 + d := by
  unfold digB
  rw [UInt8.toNat_ofNat']; exact Nat.mod_eq_of_lt (by omega)

theorem eq_snoc {l : List Nat} (h : l ≠ []) : ∃ m d, l = m ++ [d] := ⟨l.dropLast, l.getLast h, (List.dropLast_concat_getLast h).symm⟩

theorem dec_bytes (n : Nat) : ∀ (l : List Nat), l.length = n → Dig l → ((l.map digB).reverse).dropWhile (· == 48) = ((decL (dval l)).map digB).reverse := by
  induction n with
  | zero =>
    intro l hl _
    have : l = [] := List.length_eq_zero_iff.1 hl
    subst this; rfl
  | succ n ih =>
    intro l hl hd
    obtain ⟨m, d, rfl⟩ := eq_snoc (l := l) (by intro h; subst h; simp at hl)
    have hm : Dig m := fun y hy => hd y (by simp [hy])
    by_cases h0 : d = 0
    · subst h0
      rw [dval_snoc, Nat.mul_zero, Nat.add_zero, ← ih m (by simpa using hl) hm]
      rw [List.map_append, List.reverse_append]
      rfl
    · rw [dec_dval _ hd (by simp [h0])]
      rw [List.map_append, List.reverse_append]
      have := digB_ne (hd d (by simp)) h0
      show (digB d :: _).dropWhile _ = _
      rw [List.dropWhile_cons]; simp [this]

/-! Division by one limb, from the top. -/
theorem sdiv_step {o a : List Nat} {k r d : Nat} (ho : k < o.length) (ha : k < a.length)
    (h : val (a.drop (k + 1)) = val (o.drop (k + 1)) * d + r) :
    val (a.drop k) = val ((o.set k ((r * 4294967296 + nth a k) / d)).drop k) * d + (r * 4294967296 + nth a k) % d := by
  rw [List.drop_eq_getElem_cons ha, val, h]
  have e : (o.set k ((r * 4294967296 + nth a k) / d))[k]'(by simpa using ho) = (r * 4294967296 + nth a k) / d := by simp
  have e2 : (o.set k ((r * 4294967296 + nth a k) / d)).drop (k + 1) = o.drop (k + 1) := by rw [List.drop_set_of_lt (by omega)]
  have e4 : (o.set k ((r * 4294967296 + nth a k) / d)).drop k = ((r * 4294967296 + nth a k) / d) :: o.drop (k + 1) := by
    rw [List.drop_eq_getElem_cons (l := o.set k ((r * 4294967296 + nth a k) / d)) (by simpa using ho), e, e2]
  rw [e4, val, ← nth_lt ha]
  have := Nat.div_add_mod (r * 4294967296 + nth a k) d
  rw [Nat.mul_comm] at this
  rw [Nat.add_mul]
  generalize (r * 4294967296 + nth a k) / d * d = p at *
  generalize (r * 4294967296 + nth a k) % d = q at *
  have e3 : 4294967296 * val (o.drop (k + 1)) * d = 4294967296 * (val (o.drop (k + 1)) * d) := Nat.mul_assoc ..
  generalize val (o.drop (k + 1)) * d = s at *
  omega

theorem sdiv_lt {r x d : Nat} (hr : r < d) (hx : x < 4294967296) (hd : d < 4294967296) : (r * 4294967296 + x) / d < 4294967296 ∧ (r * 4294967296 + x) % d < d ∧ r * 4294967296 + x < 18446744073709551616 := by
  refine ⟨?_, Nat.mod_lt _ (by omega), by omega⟩
  rw [Nat.div_lt_iff_lt_mul (by omega)]
  omega

end Go.Proofs.Nums

/- The steps of Text. No program in sight. -/
namespace Go.Proofs.Nums

theorem text_step {ds : List Nat} {k r p M N : Nat} (hl : ds.length = k) (h : dval ds + 10 ^ k * (r + 10 ^ (p + 1) * M) = N) :
    dval (ds ++ [r % 10]) + 10 ^ (k + 1) * (r / 10 + 10 ^ p * M) = N := by
  have e : r + 10 ^ (p + 1) * M = r % 10 + 10 * (r / 10 + 10 ^ p * M) := by
    have h1 : 10 ^ (p + 1) * M = 10 * (10 ^ p * M) := by rw [Nat.pow_succ, Nat.mul_comm (10 ^ p), Nat.mul_assoc]
    rw [h1]
    generalize 10 ^ p * M = x
    omega
  rw [dval_snoc, hl, ← h, e]
  generalize r / 10 + 10 ^ p * M = x
  rw [Nat.mul_add, Nat.pow_succ, Nat.mul_assoc, Nat.add_assoc]

theorem ten_lt {k E m N d : Nat} (hm : 0 < m) (h : d + 10 ^ k * m = N) (hN : N < 2 ^ E) : k < E := by
  by_cases hk : k < E
  · exact hk
  · exfalso
    have h1 : 2 ^ E ≤ 2 ^ k := Nat.pow_le_pow_right (by omega) (by omega)
    have h2 : 2 ^ k ≤ 10 ^ k := Nat.pow_le_pow_left (by omega) k
    have h3 : 10 ^ k * 1 ≤ 10 ^ k * m := Nat.mul_le_mul_left _ hm
    omega

theorem chunk_eq (m : Nat) : m = m % 1000000000 + 10 ^ 9 * (m / 1000000000) := by
  have := Nat.div_add_mod m 1000000000
  omega

theorem div10_lt {r p : Nat} (h : r < 10 ^ (p + 1)) : r / 10 < 10 ^ p := by
  rw [Nat.pow_succ] at h
  exact Nat.div_lt_of_lt_mul (by omega)

theorem text_end {ds : List Nat} {N k : Nat} (hd : Dig ds) (h : dval ds + 10 ^ k * 0 = N) (h0 : N ≠ 0) : ((ds.map digB).reverse).dropWhile (· == 48) = decB N := by
  rw [dec_bytes _ ds rfl hd]
  have : dval ds = N := by omega
  rw [this]; unfold decB; rw [if_neg h0]

end Go.Proofs.Nums

/- Scaling by a number and an addend, powers of ten. No program in sight. -/
namespace Go.Proofs.Nums

theorem scale_step {o a : List Nat} {k c m n s : Nat} (hk : o.length = k) (hs : s = nth a k * m + c)
    (h : val o + 4294967296 ^ k * c = val (a.take k) * m + n) :
    val (o ++ [s % 4294967296]) + 4294967296 ^ (k + 1) * (s / 4294967296) = val (a.take (k + 1)) * m + n := by
  rw [val_snoc, hk, val_take_succ, Nat.add_mul, Nat.pow_succ, Nat.mul_assoc]
  have e : s % 4294967296 + 4294967296 * (s / 4294967296) = nth a k * m + c := by omega
  have e2 := congrArg (fun x => 4294967296 ^ k * x) e
  simp only [Nat.mul_add] at e2
  rw [Nat.mul_assoc] 
  omega

theorem scale_lt {x m c : Nat} (hx : x < 4294967296) (hm : m ≤ 1000000000) (hc : c < 4294967296) : x * m + c < 18446744073709551616 ∧ (x * m + c) / 4294967296 < 4294967296 := by
  have h1 : x * m ≤ 4294967295 * 1000000000 := Nat.mul_le_mul (by omega) hm
  omega

theorem dec_pow (n : Nat) : decB (10 ^ n) = 49 :: List.replicate n 48 := by
  have h0 : 10 ^ n ≠ 0 := Nat.ne_of_gt (Nat.pow_pos (by omega))
  have hd : Dig (List.replicate n 0 ++ [1]) := Dig.snoc (fun y hy => by rw [(List.mem_replicate.1 hy).2]; omega) (by omega)
  have hz : ∀ n, dval (List.replicate n 0) = 0 := by
    intro n
    induction n with
    | zero => rfl
    | succ n ih => rw [List.replicate_succ, dval, ih]
  have hv : dval (List.replicate n 0 ++ [1]) = 10 ^ n := by rw [dval_snoc, hz, List.length_replicate]; omega
  unfold decB
  rw [if_neg h0, ← hv, dec_dval _ hd (by simp)]
  rw [List.map_append, List.map_replicate, List.reverse_append, List.reverse_replicate]
  rfl

end Go.Proofs.Nums

/- Long division: the guess of a digit, the subtraction of a multiple, the adding back. No program in sight. -/
namespace Go.Proofs.Nums

theorem guess_first {top v1 v2 u2 P Ul Vl : Nat} (h1 : 0 < v1) (hu2 : u2 < 4294967296) (hUl : Ul < P) :
    (top * 4294967296 + u2) * P + Ul < (top / v1 + 1) * ((v1 * 4294967296 + v2) * P + Vl) := by
  have a1 : top + 1 ≤ (top / v1 + 1) * v1 := by
    have := Nat.lt_div_mul_add (a := top) h1
    rw [Nat.add_mul, Nat.one_mul]; omega
  generalize top / v1 + 1 = t at *
  have a2 : (top + 1) * (4294967296 * P) ≤ t * v1 * (4294967296 * P) := Nat.mul_le_mul_right _ a1
  have a3 : t * v1 * (4294967296 * P) ≤ t * ((v1 * 4294967296 + v2) * P + Vl) := by
    rw [Nat.mul_assoc]
    refine Nat.mul_le_mul_left _ ?_
    rw [Nat.add_mul, Nat.mul_assoc]
    omega
  have a4 : (top * 4294967296 + u2 + 1) * P ≤ (top + 1) * (4294967296 * P) := by
    rw [← Nat.mul_assoc]
    exact Nat.mul_le_mul_right _ (by omega)
  rw [Nat.add_mul _ 1, Nat.one_mul] at a4
  omega

theorem guess_big {U V q : Nat} (h : U < V * 4294967296) (hq : 4294967296 ≤ q) : U < (q - 1 + 1) * V := by
  rw [Nat.sub_add_cancel (by omega)]
  have := Nat.mul_le_mul_right V hq
  rw [Nat.mul_comm V] at h
  omega

theorem guess_test {top v1 v2 u2 P Ul Vl q r : Nat} (hUl : Ul < P) (hr : q * v1 + r = top) (ht : r * 4294967296 + u2 < q * v2) :
    (top * 4294967296 + u2) * P + Ul < (q - 1 + 1) * ((v1 * 4294967296 + v2) * P + Vl) := by
  have hq : 0 < q := by
    rcases Nat.eq_zero_or_pos q with h | h
    · rw [h, Nat.zero_mul] at ht; omega
    · exact h
  rw [Nat.sub_add_cancel (by omega), Nat.mul_add, ← Nat.mul_assoc]
  have a1 : top * 4294967296 + u2 + 1 ≤ q * (v1 * 4294967296 + v2) := by
    rw [Nat.mul_add, ← Nat.mul_assoc, ← hr, Nat.add_mul]; omega
  have a2 := Nat.mul_le_mul_right P a1
  rw [Nat.add_mul _ 1, Nat.one_mul] at a2
  omega

theorem guess_end {top v1 v2 u2 P Ul Vl q : Nat} (hV : Vl < P) (h1 : 0 < v1) (hq : q ≤ 4294967296) (ht : q * (v1 * 4294967296 + v2) ≤ top * 4294967296 + u2) :
    q * ((v1 * 4294967296 + v2) * P + Vl) ≤ ((top * 4294967296 + u2) * P + Ul) + ((v1 * 4294967296 + v2) * P + Vl) := by
  have a1 := Nat.mul_le_mul_right P ht
  have a2 : q * Vl ≤ 4294967296 * P := Nat.mul_le_mul hq (Nat.le_of_lt hV)
  have a3 : 4294967296 * P ≤ (v1 * 4294967296 + v2) * P := Nat.mul_le_mul_right _ (by omega)
  rw [Nat.mul_add, ← Nat.mul_assoc]
  omega

/-- The loop of guess is left with the test false. -/
theorem guess_left {top v1 v2 u2 q r : Nat} (hr : q * v1 + r = top) (ht : q * v2 ≤ r * 4294967296 + u2) : q * (v1 * 4294967296 + v2) ≤ top * 4294967296 + u2 := by
  rw [Nat.mul_add, ← Nat.mul_assoc, ← hr, Nat.add_mul]; omega

/-- The loop of guess is left by the break. -/
theorem guess_break {top v1 v2 u2 q r : Nat} (hr : q * v1 + r = top) (hb : 4294967296 ≤ r) (hv2 : v2 < 4294967296) (hq : q ≤ 4294967296) : q * (v1 * 4294967296 + v2) ≤ top * 4294967296 + u2 := by
  refine guess_left hr ?_
  have h1 : q * v2 ≤ 4294967296 * 4294967296 := Nat.mul_le_mul hq (by omega)
  omega

/-- q is a limb when the break is taken. -/
theorem guess_lt {top v1 q r : Nat} (hr : q * v1 + r = top) (hb : 4294967296 ≤ r) (ht : top < v1 * 4294967296 + 4294967296) : q < 4294967296 := by
  rcases Nat.lt_or_ge q 4294967296 with h | h
  · exact h
  · have := Nat.mul_le_mul_right v1 h
    rw [Nat.mul_comm v1] at ht
    omega

/-- The first guess. -/
theorem guess_le {top v1 : Nat} (h1 : 2147483648 ≤ v1) (ht : top < v1 * 4294967296 + 4294967296) : top / v1 ≤ 4294967297 := by
  have : top / v1 < 4294967298 := by
    rw [Nat.div_lt_iff_lt_mul (by omega)]
    omega
  omega

theorem guess_top0 {a b y x z u : Nat} (h1 : y < z) (h2 : z ≤ x) (h : x * a + u + b < y * a) : False := by
  have h3 : y * a ≤ x * a := Nat.mul_le_mul_right _ (by omega)
  omega

theorem guess_top {top v1 v2 u2 P Ul Vl : Nat} (hv2 : v2 < 4294967296) (hVl : Vl < P) (h : (top * 4294967296 + u2) * P + Ul < ((v1 * 4294967296 + v2) * P + Vl) * 4294967296) : top < v1 * 4294967296 + 4294967296 := by
  rcases Nat.lt_or_ge top (v1 * 4294967296 + 4294967296) with h0 | h0
  · exact h0
  · exfalso
    have h1 : (v1 * 4294967296 + v2) * P + Vl < (v1 * 4294967296 + 4294967296) * P := by
      have : (v1 * 4294967296 + v2 + 1) * P ≤ (v1 * 4294967296 + 4294967296) * P := Nat.mul_le_mul_right _ (by omega)
      rw [Nat.add_mul _ 1, Nat.one_mul] at this
      exact Nat.lt_of_lt_of_le (Nat.add_lt_add_left hVl _) this
    have h2 : (v1 * 4294967296 + 4294967296) * P ≤ top * P := Nat.mul_le_mul_right _ h0
    rw [Nat.add_mul (top * 4294967296), Nat.mul_right_comm top] at h
    exact guess_top0 h1 h2 h

theorem val_drop (l : List Nat) (k : Nat) (h : k < l.length) : val (l.drop k) = nth l k + 4294967296 * val (l.drop (k + 1)) := by
  rw [List.drop_eq_getElem_cons h, val, nth_lt h]

theorem val_div (l : List Nat) (hl : Lim l) (k : Nat) (hk : k ≤ l.length) : val (l.drop k) = val l / 4294967296 ^ k := by
  have h1 := val_take_lt l hl k hk
  rw [val_take_drop l k, List.length_take, Nat.min_eq_left hk, Nat.add_mul_div_left _ _ (Nat.pow_pos (by omega)), Nat.div_eq_of_lt h1, Nat.zero_add]

theorem nth_drop (l : List Nat) (j i : Nat) : nth (l.drop j) i = nth l (j + i) := by
  unfold nth; rw [List.getD_eq_getElem?_getD, List.getD_eq_getElem?_getD, List.getElem?_drop]

/-- The divisor by its two top limbs. -/
theorem val_two (v : List Nat) (hv : 2 ≤ v.length) : val v = (nth v (v.length - 1) * 4294967296 + nth v (v.length - 2)) * 4294967296 ^ (v.length - 2) + val (v.take (v.length - 2)) := by
  obtain ⟨n, hn⟩ : ∃ n, v.length = n + 2 := ⟨v.length - 2, by omega⟩
  rw [hn]
  have e := val_take_drop v n
  rw [List.length_take, Nat.min_eq_left (by omega), val_drop v n (by omega), val_drop v (n + 1) (by omega), List.drop_of_length_le (by omega)] at e
  rw [e]
  simp only [val, Nat.mul_zero, Nat.add_zero, Nat.add_sub_cancel, show n + 2 - 1 = n + 1 from rfl]
  rw [Nat.mul_comm (4294967296 ^ n), Nat.add_comm (val _)]
  congr 2
  omega

/-- The window of the dividend by its three top limbs. -/
theorem val_three (u : List Nat) (j n : Nat) (hn : 2 ≤ n) (hj : j + n < u.length) (hz : val (u.drop (j + n + 1)) = 0) :
    val (u.drop j) = ((nth u (j + n) * 4294967296 + nth u (j + n - 1)) * 4294967296 + nth u (j + n - 2)) * 4294967296 ^ (n - 2) + val ((u.drop j).take (n - 2)) := by
  obtain ⟨m, rfl⟩ : ∃ m, n = m + 2 := ⟨n - 2, by omega⟩
  have e := val_take_drop (u.drop j) m
  rw [List.length_take, Nat.min_eq_left (by rw [List.length_drop]; omega), List.drop_drop, val_drop u (j + m) (by omega), val_drop u (j + m + 1) (by omega), val_drop u (j + m + 1 + 1) (by omega),
    show j + m + 1 + 1 + 1 = j + (m + 2) + 1 by omega, hz] at e
  rw [show j + (m + 2) - 1 = j + m + 1 by omega, show j + (m + 2) - 2 = j + m by omega, show j + (m + 2) = j + m + 1 + 1 by omega, show m + 2 - 2 = m by omega, e]
  simp only [Nat.mul_zero, Nat.add_zero]
  rw [Nat.mul_comm (4294967296 ^ m), Nat.add_comm (val _)]
  congr 2
  omega

/-- A limb of the subtraction of a multiple. -/
theorem msub_step {x u0 v : List Nat} {i j q c bo p s : Nat} (hk : i + j < x.length) (hp : p = q * nth v i + c) (hs : s + p % 4294967296 + bo = 4294967296 + nth x (i + j)) (hs1 : s / 4294967296 ≤ 1)
    (h : val x + 4294967296 ^ j * (q * val (v.take i)) = val u0 + 4294967296 ^ (i + j) * (c + bo)) :
    val (x.set (i + j) (s % 4294967296)) + 4294967296 ^ j * (q * val (v.take (i + 1))) = val u0 + 4294967296 ^ (i + 1 + j) * (p / 4294967296 + (1 - s / 4294967296)) := by
  have e := val_set x (i + j) (s % 4294967296) hk
  rw [val_take_succ v, Nat.mul_add, Nat.mul_add (4294967296 ^ j), show i + 1 + j = i + j + 1 by omega, Nat.pow_succ, Nat.mul_assoc (4294967296 ^ (i + j))]
  have e1 : s % 4294967296 + q * nth v i + c + bo = nth x (i + j) + 4294967296 * (p / 4294967296 + (1 - s / 4294967296)) := by
    rw [← hp.symm.trans rfl] at *
    omega
  have e2 : 4294967296 ^ j * (q * (4294967296 ^ i * nth v i)) = 4294967296 ^ (i + j) * (q * nth v i) := by
    rw [Nat.pow_add, Nat.mul_comm (4294967296 ^ i) (4294967296 ^ j), Nat.mul_assoc, Nat.mul_left_comm q]
  rw [e2]
  have e3 := congrArg (fun z => 4294967296 ^ (i + j) * z) e1
  simp only [Nat.mul_add] at e3 h ⊢
  omega

/-- A limb of the adding back. -/
theorem addb_step {x u0 v : List Nat} {i j c s : Nat} (hk : i + j < x.length) (hs : s = nth x (i + j) + nth v i + c)
    (h : val x + 4294967296 ^ (i + j) * c = val u0 + 4294967296 ^ j * val (v.take i)) :
    val (x.set (i + j) (s % 4294967296)) + 4294967296 ^ (i + 1 + j) * (s / 4294967296) = val u0 + 4294967296 ^ j * val (v.take (i + 1)) := by
  have e := val_set x (i + j) (s % 4294967296) hk
  rw [val_take_succ v, Nat.mul_add (4294967296 ^ j), show i + 1 + j = i + j + 1 by omega, Nat.pow_succ, Nat.mul_assoc (4294967296 ^ (i + j))]
  have e1 : s % 4294967296 + 4294967296 * (s / 4294967296) = nth x (i + j) + nth v i + c := by omega
  have e2 : 4294967296 ^ j * (4294967296 ^ i * nth v i) = 4294967296 ^ (i + j) * nth v i := by
    rw [Nat.pow_add, Nat.mul_comm (4294967296 ^ i) (4294967296 ^ j), Nat.mul_assoc]
  rw [e2]
  have e3 := congrArg (fun z => 4294967296 ^ (i + j) * z) e1
  simp only [Nat.mul_add] at e3 h ⊢
  omega

theorem drop_set_keep {x : List Nat} {j k y : Nat} (h : j < k) : (x.set j y).drop k = x.drop k := List.drop_set_of_lt h

theorem val_drop_lt {x : List Nat} (hl : Lim x) (j n : Nat) (hj : j + n + 1 ≤ x.length) (hz : val (x.drop (j + n + 1)) = 0) : val (x.drop j) < 4294967296 ^ (n + 1) := by
  rw [val_take_drop (x.drop j) (n + 1), List.drop_drop, show j + (n + 1) = j + n + 1 by omega, hz, Nat.mul_zero, Nat.add_zero]
  exact val_take_lt _ (hl.drop j) _ (by rw [List.length_drop]; omega)

theorem div_shift {A B p m : Nat} (hp : 0 < p) (h : A = B + p * m) : A / p = B / p + m := by
  rw [h, Nat.add_mul_div_left _ _ hp]

/-- The end of a round of the long division, no borrow. -/
theorem long_sub {x u v : List Nat} {j q : Nat} (hx : Lim x) (hu : Lim u) (hlen : x.length = u.length) (hj : j ≤ u.length)
    (h : val x + 4294967296 ^ j * (q * val v) = val u) (hU : val (u.drop j) < (q + 1) * val v) : val (x.drop j) < val v := by
  rw [val_div u hu j hj] at hU
  rw [val_div x hx j (by omega)]
  have := div_shift (Nat.pow_pos (n := j) (by omega : 0 < 4294967296)) h.symm
  rw [this, Nat.add_mul, Nat.one_mul] at hU
  omega

/-- A borrow says that the guess was one too great. -/
theorem long_borrow {x u v : List Nat} {j n q : Nat} (hx : Lim x) (hu : Lim u) (hlen : x.length = u.length) (hj : j + n + 1 ≤ u.length)
    (hz : val (x.drop (j + n + 1)) = 0)
    (h : val x + 4294967296 ^ j * (q * val v) = val u + 4294967296 ^ (n + 1 + j)) : val (u.drop j) < q * val v ∧ val (x.drop j) + q * val v = val (u.drop j) + 4294967296 ^ (n + 1) := by
  have hlt := val_drop_lt hx j n (by omega) hz
  rw [val_div x hx j (by omega)] at hlt ⊢
  rw [val_div u hu j (by omega)]
  have hp := (Nat.pow_pos (n := j) (by omega : 0 < 4294967296))
  have h1 := congrArg (fun z => z / 4294967296 ^ j) h
  rw [Nat.add_mul_div_left _ _ hp, Nat.pow_add, Nat.mul_comm (4294967296 ^ (n + 1)), Nat.add_mul_div_left _ _ hp] at h1
  omega

/-- Adding back. -/
theorem long_back {x y u v : List Nat} {j n q c : Nat} (hy : Lim y) (hx : Lim x) (hlen : x.length = u.length) (hlen2 : y.length = u.length) (hj : j + n + 1 ≤ u.length)
    (hzy : val (y.drop (j + n + 1)) = 0)
    (hb : val (u.drop j) < q * val v ∧ val (x.drop j) + q * val v = val (u.drop j) + 4294967296 ^ (n + 1))
    (h : val x + 4294967296 ^ j * (q * val v) = val u + 4294967296 ^ (n + 1 + j))
    (hq : q * val v ≤ val (u.drop j) + val v) (hc : c ≤ 1)
    (ha : val y + 4294967296 ^ (n + 1 + j) * c = val x + 4294967296 ^ j * val v) :
    0 < q ∧ val y + 4294967296 ^ j * ((q - 1) * val v) = val u ∧ val (y.drop j) < val v := by
  have hq0 : 0 < q := by
    rcases Nat.eq_zero_or_pos q with h0 | h0
    · rw [h0, Nat.zero_mul] at hb; omega
    · exact h0
  have hlt := val_drop_lt hy j n (by omega) hzy
  have hp := (Nat.pow_pos (n := j) (by omega : 0 < 4294967296))
  have hay := ha
  rw [Nat.pow_add, Nat.mul_comm (4294967296 ^ (n + 1)), Nat.mul_assoc] at hay
  have h1 := congrArg (fun z => z / 4294967296 ^ j) hay
  rw [Nat.add_mul_div_left _ _ hp, Nat.add_mul_div_left _ _ hp, ← val_div x hx j (by omega), ← val_div y hy j (by omega)] at h1
  obtain ⟨hb1, hb2⟩ := hb
  have hc1 : c = 1 := by
    have hc2 : c = 0 ∨ c = 1 := by omega
    rcases hc2 with h0 | h0
    · rw [h0, Nat.mul_zero, Nat.add_zero] at h1; omega
    · exact h0
  subst hc1
  obtain ⟨p, rfl⟩ : ∃ p, q = p + 1 := ⟨q - 1, by omega⟩
  rw [Nat.add_sub_cancel]
  rw [Nat.add_mul, Nat.one_mul] at hb1 hb2 hq
  rw [Nat.add_mul, Nat.one_mul, Nat.mul_add] at h
  refine ⟨hq0, by omega, by omega⟩

/-- The digit is laid. -/
theorem long_digit {o u x v : List Nat} {j q U : Nat} (hj : j < o.length) (hI : val (o.drop (j + 1)) * val v * 4294967296 ^ (j + 1) + val u = U)
    (h : val x + 4294967296 ^ j * (q * val v) = val u) : val ((o.set j q).drop j) * val v * 4294967296 ^ j + val x = U := by
  rw [val_drop _ _ (by rw [List.length_set]; exact hj), nth_set_self hj, List.drop_set_of_lt (by omega), Nat.add_mul, Nat.add_mul, ← hI, ← h, Nat.pow_succ]
  have e1 : q * val v * 4294967296 ^ j = 4294967296 ^ j * (q * val v) := Nat.mul_comm _ _
  have e2 : 4294967296 * val (o.drop (j + 1)) * val v * 4294967296 ^ j = val (o.drop (j + 1)) * val v * (4294967296 ^ j * 4294967296) := by
    rw [Nat.mul_assoc 4294967296, Nat.mul_assoc 4294967296, Nat.mul_comm 4294967296, Nat.mul_assoc]
  rw [e1, e2]; omega

/-- The next window. -/
theorem long_window {u v : List Nat} {j : Nat} (hu : Lim u) (hj : j < u.length) (h : val (u.drop (j + 1)) < val v) : val (u.drop j) < val v * 4294967296 := by
  rw [val_drop u j hj]
  have := hu.nth j
  omega

theorem long_zero {u v : List Nat} (hv : Lim v) {k : Nat} (hk : k + v.length ≤ u.length) (h : val (u.drop k) < val v) : val (u.drop (k + v.length)) = 0 := by
  have h1 := val_lt v hv
  have h2 := val_take_drop (u.drop k) v.length
  rw [List.drop_drop, List.length_take, Nat.min_eq_left (by rw [List.length_drop]; omega)] at h2
  rcases Nat.eq_zero_or_pos (val (u.drop (k + v.length))) with h3 | h3
  · exact h3
  · have := Nat.mul_le_mul_left (4294967296 ^ v.length) h3
    omega

end Go.Proofs.Nums

/- Shifts of limbs, the bitwise division, the greatest common divisor, decimal reading. No program in sight. -/
namespace Go.Proofs.Nums

theorem pow32 {s : Nat} (hs : s ≤ 32) : 2 ^ s * 2 ^ (32 - s) = 4294967296 := by
  rw [← Nat.pow_add, show s + (32 - s) = 32 by omega]

/-- A limb shifted to the left: its low half is a multiple. -/
theorem left_low {x s : Nat} (hs : s ≤ 32) : x * 2 ^ s % 4294967296 = 2 ^ s * (x % 2 ^ (32 - s)) := by
  rw [← pow32 hs, Nat.mul_comm x, Nat.mul_mod_mul_left]

theorem left_high {x s : Nat} (hx : x < 4294967296) : x * 2 ^ s / 4294967296 < 2 ^ s := by
  rw [Nat.div_lt_iff_lt_mul (by omega), Nat.mul_comm (2 ^ s)]
  exact Nat.mul_lt_mul_of_pos_right hx (Nat.pow_pos (by omega))

theorem left_sum {x y s : Nat} (hs : s ≤ 32) (hy : y < 2 ^ s) : y + x * 2 ^ s % 4294967296 < 4294967296 := by
  rw [left_low hs]
  have h1 := Nat.mod_lt x (Nat.pow_pos (n := 32 - s) (by omega : 0 < 2))
  have h2 : 2 ^ s * (x % 2 ^ (32 - s) + 1) ≤ 2 ^ s * 2 ^ (32 - s) := Nat.mul_le_mul_left _ h1
  rw [pow32 hs, Nat.mul_add] at h2
  omega

theorem left_or {x y s : Nat} (hs : s ≤ 32) (hy : y < 2 ^ s) : y ||| (x * 2 ^ s % 4294967296) = y + x * 2 ^ s % 4294967296 := by
  rw [left_low hs]
  have := Nat.two_pow_add_eq_or_of_lt hy (x % 2 ^ (32 - s))
  rw [Nat.or_comm, ← this, Nat.add_comm]

theorem left_inv {o l : List Nat} {k s : Nat} (hl : Lim l) (hk : k < l.length) (hs : s < 32) (ho : o.length = l.length + 1) (h : val o = val (l.take k) * 2 ^ s) : nth o k < 2 ^ s ∧ nth o (k + 1) = 0 := by
  have h1 := val_take_lt l hl k (by omega)
  have hp : 0 < 2 ^ s := Nat.pow_pos (by omega)
  have h2 : val o < 4294967296 ^ k * 2 ^ s := by rw [h]; exact Nat.mul_lt_mul_of_pos_right h1 hp
  refine ⟨nth_bound (by omega) h2, nth_zero ?_⟩
  have h3 : 2 ^ s ≤ 2 ^ 32 := Nat.pow_le_pow_right (by omega) (by omega)
  have h4 := Nat.mul_le_mul_left (4294967296 ^ k) h3
  rw [Nat.pow_succ]; omega

theorem left_step {o l : List Nat} {k s : Nat} (hl : Lim l) (hk : k < l.length) (hs : s < 32) (ho : o.length = l.length + 1) (h : val o = val (l.take k) * 2 ^ s) :
    val ((o.set k (nth o k + nth l k * 2 ^ s % 4294967296)).set (k + 1) (nth l k * 2 ^ s / 4294967296)) = val (l.take (k + 1)) * 2 ^ s := by
  have h1 := (left_inv hl hk hs ho h).2
  have e1 := val_set o k (nth o k + nth l k * 2 ^ s % 4294967296) (by omega)
  have e2 := val_set (o.set k (nth o k + nth l k * 2 ^ s % 4294967296)) (k + 1) (nth l k * 2 ^ s / 4294967296) (by rw [List.length_set]; omega)
  rw [nth_set_ne (by omega), h1, Nat.mul_zero, Nat.add_zero] at e2
  rw [e2, val_take_succ, Nat.add_mul, ← h, Nat.pow_succ, Nat.mul_assoc (4294967296 ^ k) (nth l k)]
  have h2 := Nat.mod_add_div (nth l k * 2 ^ s) 4294967296
  generalize nth l k * 2 ^ s = z at *
  rw [← h2, Nat.mul_add, Nat.mul_assoc (4294967296 ^ k)]
  rw [Nat.mul_add] at e1
  have e3 : (z % 4294967296 + 4294967296 * (z / 4294967296)) % 4294967296 = z % 4294967296 := by omega
  have e4 : (z % 4294967296 + 4294967296 * (z / 4294967296)) / 4294967296 = z / 4294967296 := by omega
  rw [e3, e4]
  omega

theorem right_step {o a : List Nat} {k s : Nat} (ha : Lim a) (hs : s ≤ 32) (hk : k < a.length) (hko : k < o.length) (h : val (o.take k) = val a / 2 ^ s % 4294967296 ^ k) :
    val ((o.set k ((nth a k + 4294967296 * nth a (k + 1)) / 2 ^ s % 4294967296)).take (k + 1)) = val a / 2 ^ s % 4294967296 ^ (k + 1) := by
  have hp : 0 < 2 ^ s := Nat.pow_pos (by omega)
  rw [val_take_set _ _ _ hko, h, Nat.pow_succ, Nat.mod_mul]
  congr 2
  rw [Nat.div_div_eq_div_mul, Nat.mul_comm (2 ^ s), ← Nat.div_div_eq_div_mul, ← val_div a ha k (by omega), val_drop a k hk]
  by_cases h1 : k + 1 < a.length
  · rw [val_drop a (k + 1) h1]
    have e : nth a k + 4294967296 * (nth a (k + 1) + 4294967296 * val (a.drop (k + 1 + 1))) = nth a k + 4294967296 * nth a (k + 1) + 2 ^ s * (4294967296 * (2 ^ (32 - s) * val (a.drop (k + 1 + 1)))) := by
      rw [Nat.mul_left_comm (2 ^ s), ← Nat.mul_assoc (2 ^ s), pow32 hs]; omega
    rw [e, Nat.add_mul_div_left _ _ hp, Nat.add_mul_mod_self_left]
  · rw [List.drop_of_length_le (by omega), nth_ge (l := a) (i := k + 1) (by omega)]
    simp only [val, Nat.mul_zero]

theorem right_end {o a : List Nat} {s : Nat} (ha : Lim a) (ho : o.length = a.length) (h : val (o.take a.length) = val a / 2 ^ s % 4294967296 ^ a.length) : val o = val a / 2 ^ s := by
  rw [val_take_all (Nat.le_of_eq ho)] at h
  rw [h]
  exact Nat.mod_eq_of_lt (Nat.lt_of_le_of_lt (Nat.div_le_self _ _) (val_lt a ha))

/-! The bitwise division. -/
theorem bval_drop (l : List Bool) (k : Nat) (h : k < l.length) : bval (l.drop k) = bN (bnth l k) + 2 * bval (l.drop (k + 1)) := by
  rw [List.drop_eq_getElem_cons h, bval, bnth_lt h]

theorem bnth_set_self {l : List Bool} {k : Nat} {x : Bool} (h : k < l.length) : bnth (l.set k x) k = x := by rw [bnth_lt (by simpa using h)]; simp
theorem bnth_set_ne {l : List Bool} {k j : Nat} {x : Bool} (h : j ≠ k) : bnth (l.set k x) j = bnth l j := by
  unfold bnth; rw [List.getD_eq_getElem?_getD, List.getD_eq_getElem?_getD, List.getElem?_set_ne (fun e => h e.symm)]

/-- What a round of the division keeps. -/
def BDiv (a q : List Bool) (B R k : Nat) : Prop := q.length = a.length ∧ bval (a.drop k) = bval (q.drop k) * B + R ∧ R < B ∧ ∀ j, j < k → bnth q j = false

theorem BDiv.start (a : List Bool) (B : Nat) (hB : 0 < B) : BDiv a (List.replicate a.length false) B 0 a.length := by
  refine ⟨by simp, ?_, hB, fun j hj => ?_⟩
  · rw [List.drop_length, List.drop_of_length_le (by simp)]; simp [bval]
  · rw [bnth_lt (by simpa using hj)]; simp

theorem BDiv.less {a q : List Bool} {B R k : Nat} (h : BDiv a q B R (k + 1)) (hk : k < a.length) (hlt : bN (bnth a k) + 2 * R < B) : BDiv a q B (bN (bnth a k) + 2 * R) k := by
  obtain ⟨h1, h2, h3, h4⟩ := h
  refine ⟨h1, ?_, hlt, fun j hj => h4 j (by omega)⟩
  rw [bval_drop a k hk, bval_drop q k (by omega), h4 k (by omega), h2, Nat.add_mul, Nat.mul_add, Nat.mul_assoc]
  simp [bN]; omega

theorem BDiv.more {a q : List Bool} {B R k : Nat} (h : BDiv a q B R (k + 1)) (hk : k < a.length) (hge : B ≤ bN (bnth a k) + 2 * R) : BDiv a (q.set k true) B (bN (bnth a k) + 2 * R - B) k := by
  obtain ⟨h1, h2, h3, h4⟩ := h
  have hb := bN_le (bnth a k)
  refine ⟨by rw [List.length_set]; exact h1, ?_, by omega, fun j hj => by rw [bnth_set_ne (by omega)]; exact h4 j (by omega)⟩
  rw [bval_drop a k hk, bval_drop _ k (by rw [List.length_set]; omega), bnth_set_self (by omega), List.drop_set_of_lt (by omega), h2, Nat.add_mul, Nat.mul_add, Nat.mul_assoc]
  simp [bN] at hb hge ⊢; omega

theorem BDiv.done {a q : List Bool} {B R : Nat} (h : BDiv a q B R 0) : bval q = bval a / B ∧ R = bval a % B := by
  obtain ⟨h1, h2, h3, h4⟩ := h
  rw [List.drop_zero, List.drop_zero] at h2
  rw [h2, Nat.mul_comm, Nat.mul_add_div (by omega), Nat.mul_add_mod]
  exact ⟨by rw [Nat.div_eq_of_lt h3]; rfl, (Nat.mod_eq_of_lt h3).symm⟩

theorem gcd_step (a b : Nat) : Nat.gcd b (a % b) = Nat.gcd a b := by
  rw [Nat.gcd_comm b, ← Nat.gcd_rec, Nat.gcd_comm]

/-! Decimal reading. -/
def pvF (l : List UInt8) : Nat := l.foldl (fun acc c => 10 * acc + (c.toNat - 48)) 0

theorem pvF_snoc (l : List UInt8) (c : UInt8) : pvF (l ++ [c]) = 10 * pvF l + (c.toNat - 48) := by unfold pvF; rw [List.foldl_append]; rfl

theorem pvF_take (l : List UInt8) (k : Nat) (h : k < l.length) : pvF (l.take (k + 1)) = 10 * pvF (l.take k) + ((bat l k).toNat - 48) := by
  rw [List.take_succ_eq_append_getElem h, pvF_snoc, bat_lt h]

def isDig (c : UInt8) : Bool := decide (48 ≤ c.toNat) && decide (c.toNat ≤ 57)

/-- The texts of numbers. -/
def numB (l : List UInt8) : Bool := !l.isEmpty && !(bat l 0 == 48 && decide (1 < l.length)) && l.all isDig

/-- The first k bytes are digits. -/
def DigTo (l : List UInt8) (k : Nat) : Prop := ∀ j, j < k → isDig (bat l j) = true

theorem isDig_iff {c : UInt8} : isDig c = true ↔ 48 ≤ c.toNat ∧ c.toNat ≤ 57 := by unfold isDig; simp

theorem pvF_take_lt (l : List UInt8) (k : Nat) (hk : k ≤ l.length) (h : DigTo l k) : pvF (l.take k) < 10 ^ k := by
  induction k with
  | zero => simp [pvF]
  | succ k ih =>
    have h1 := ih (by omega) (fun j hj => h j (by omega))
    have h2 := isDig_iff.1 (h k (by omega))
    rw [pvF_take l k (by omega), Nat.pow_succ]
    omega

theorem DigTo.succ {l : List UInt8} {k : Nat} (h : DigTo l k) (hd : isDig (bat l k) = true) : DigTo l (k + 1) := fun j hj => by
  by_cases h1 : j < k
  · exact h j h1
  · obtain rfl : j = k := by omega
    exact hd

theorem all_of_digTo {l : List UInt8} (h : DigTo l l.length) : l.all isDig = true := by
  rw [List.all_eq_true]
  intro c hc
  obtain ⟨i, hi, rfl⟩ := List.mem_iff_getElem.1 hc
  have := h i hi
  rw [bat_lt hi] at this; exact this

theorem not_all {l : List UInt8} {k : Nat} (hk : k < l.length) (h : isDig (bat l k) = false) : l.all isDig = false := by
  rw [List.all_eq_false]
  exact ⟨l[k], List.getElem_mem hk, by rw [← bat_lt hk, h]; simp⟩

end Go.Proofs.Nums

/- The normalising shift of the long division. No program in sight. -/
namespace Go.Proofs.Nums

theorem bitLen_bits (f x : Nat) (h : x < 2 ^ f) : Lib.bitLenAux f x = (bitsN x).length := by
  induction f generalizing x with
  | zero => have : x = 0 := by simpa using h
            subst this; rfl
  | succ f ih =>
    unfold Lib.bitLenAux
    by_cases h0 : x = 0
    · subst h0; rfl
    · rw [if_neg h0, bits_pos x h0, List.length_cons, ih (x / 2) (by rw [Nat.pow_succ] at h; omega)]
      omega

theorem bitLen_len (x : Nat) (h : x < 4294967296) : Lib.bitLen x = (bitsN x).length := bitLen_bits 64 x (by omega)

/-- The count of the zeros ahead of a limb. -/
theorem lz_bounds {x : Nat} (h0 : 0 < x) (h : x < 4294967296) : ∃ s : Nat, s < 32 ∧ (32 - (Lib.bitLen x : Int)) = (s : Int) ∧ 2147483648 ≤ x * 2 ^ s ∧ x * 2 ^ s < 4294967296 := by
  rw [bitLen_len x h]
  have h1 := bits_len_le x 32 (by omega)
  have h2 : 0 < (bitsN x).length := List.length_pos_iff.2 fun e => by have := bits_eq_nil.1 e; omega
  have h3 := bits_lt_pow x
  have h4 := pow_le_bits x (by omega)
  obtain ⟨k, hk⟩ : ∃ k, (bitsN x).length = k + 1 := ⟨(bitsN x).length - 1, by omega⟩
  rw [hk] at h1 h3 h4 ⊢
  rw [Nat.add_sub_cancel] at h4
  refine ⟨31 - k, by omega, by omega, ?_, ?_⟩
  · have : 2 ^ k * 2 ^ (31 - k) ≤ x * 2 ^ (31 - k) := Nat.mul_le_mul_right _ h4
    rw [← Nat.pow_add, show k + (31 - k) = 31 by omega] at this
    omega
  · have : x * 2 ^ (31 - k) < 2 ^ (k + 1) * 2 ^ (31 - k) := Nat.mul_lt_mul_of_pos_right h3 (Nat.pow_pos (by omega))
    rw [← Nat.pow_add, show k + 1 + (31 - k) = 32 by omega] at this
    omega

theorem top_le (y : List Nat) (h : 0 < y.length) : 4294967296 ^ (y.length - 1) * nth y (y.length - 1) ≤ val y := by
  rw [val_split y (y.length - 1) (by omega), Nat.mul_add]
  omega

theorem top_lt (y : List Nat) (hy : Lim y) (h : 0 < y.length) : val y < 4294967296 ^ (y.length - 1) * (nth y (y.length - 1) + 1) := by
  have h1 := val_take_lt y hy (y.length - 1) (by omega)
  rw [val_split y (y.length - 1) (by omega), show y.length - 1 + 1 = y.length by omega, List.drop_length]
  simp only [val, Nat.mul_zero, Nat.add_zero, Nat.mul_add, Nat.mul_one]
  omega

theorem shift_len {m s : Nat} (y : List Nat) (hy : y = limbs m) (h0 : 0 < y.length) (ht : nth y (y.length - 1) * 2 ^ s < 4294967296) (hs : s ≤ 32) : (limbs (m * 2 ^ s)).length = y.length := by
  have hv : val y = m := by rw [hy, val_limbs]
  have hl : Lim y := by rw [hy]; exact limbs_lim m
  have hp : 0 < 2 ^ s := Nat.pow_pos (by omega)
  apply Nat.le_antisymm
  · apply limbs_len_le
    have h1 := top_lt y hl h0
    rw [hv] at h1
    have h2 : m * 2 ^ s < 4294967296 ^ (y.length - 1) * (nth y (y.length - 1) + 1) * 2 ^ s := Nat.mul_lt_mul_of_pos_right h1 hp
    have h3 : (nth y (y.length - 1) + 1) * 2 ^ s ≤ 4294967296 := by
      rw [← pow32 hs] at ht ⊢
      rw [Nat.mul_comm (2 ^ s)] at ht ⊢
      have h4 := Nat.lt_of_mul_lt_mul_right ht
      exact Nat.mul_le_mul_right _ h4
    have h5 : 4294967296 ^ y.length = 4294967296 ^ (y.length - 1) * 4294967296 := by rw [← Nat.pow_succ]; congr 1; omega
    rw [h5]
    rw [Nat.mul_assoc] at h2
    exact Nat.lt_of_lt_of_le h2 (Nat.mul_le_mul_left _ h3)
  · rcases Nat.lt_or_ge (limbs (m * 2 ^ s)).length y.length with h | h
    · exfalso
      rw [hy] at h
      have h1 := len_lt h
      have h2 : m * 1 ≤ m * 2 ^ s := Nat.mul_le_mul_left _ hp
      omega
    · exact h

theorem shift_top {m s : Nat} (y z : List Nat) (hy : y = limbs m) (hz : z = limbs (m * 2 ^ s)) (h0 : 0 < y.length) (hl : z.length = y.length) (ht : 2147483648 ≤ nth y (y.length - 1) * 2 ^ s) : 2147483648 ≤ nth z (z.length - 1) := by
  have hv : val y = m := by rw [hy, val_limbs]
  have hvz : val z = m * 2 ^ s := by rw [hz, val_limbs]
  have hlz : Lim z := by rw [hz]; exact limbs_lim _
  have h1 := top_le y h0
  have h2 := top_lt z hlz (by omega)
  rw [hv] at h1
  rw [hvz, hl] at h2
  rw [hl]
  have h3 : 4294967296 ^ (y.length - 1) * nth y (y.length - 1) * 2 ^ s ≤ m * 2 ^ s := Nat.mul_le_mul_right _ h1
  rw [Nat.mul_assoc] at h3
  have h4 : 4294967296 ^ (y.length - 1) * 2147483648 ≤ 4294967296 ^ (y.length - 1) * (nth y (y.length - 1) * 2 ^ s) := Nat.mul_le_mul_left _ ht
  have h5 : 4294967296 ^ (y.length - 1) * 2147483648 < 4294967296 ^ (y.length - 1) * (nth z (y.length - 1) + 1) := by omega
  have := Nat.lt_of_mul_lt_mul_left h5
  omega

theorem long_start {n m s X Y : Nat} {u : List Nat} (hu : Lim u) (hul : u.length = X + 1) (hv : val u = n * 2 ^ s) (hn : n < 4294967296 ^ X) (hm : 4294967296 ^ (Y - 1) ≤ m) (hY : 1 ≤ Y) (hXY : Y ≤ X) :
    val (u.drop (X + 1 - Y)) < m * 2 ^ s := by
  have hp : 0 < 2 ^ s := Nat.pow_pos (by omega)
  rw [val_div u hu _ (by omega), hv, Nat.div_lt_iff_lt_mul (Nat.pow_pos (by omega))]
  have h1 : n * 2 ^ s < 4294967296 ^ X * 2 ^ s := Nat.mul_lt_mul_of_pos_right hn hp
  have h2 : 4294967296 ^ X = 4294967296 ^ (Y - 1) * 4294967296 ^ (X + 1 - Y) := by rw [← Nat.pow_add]; congr 1; omega
  have h3 : 4294967296 ^ (Y - 1) * 4294967296 ^ (X + 1 - Y) * 2 ^ s = 4294967296 ^ (Y - 1) * 2 ^ s * 4294967296 ^ (X + 1 - Y) := Nat.mul_right_comm _ _ _
  have h4 : 4294967296 ^ (Y - 1) * 2 ^ s * 4294967296 ^ (X + 1 - Y) ≤ m * 2 ^ s * 4294967296 ^ (X + 1 - Y) := Nat.mul_le_mul_right _ (Nat.mul_le_mul_right _ hm)
  rw [h2, h3] at h1
  omega

theorem long_end {n m s o r : Nat} (h : o * (m * 2 ^ s) + r = n * 2 ^ s) (hr : r < m * 2 ^ s) : o = n / m ∧ r / 2 ^ s = n % m := by
  have hp : 0 < 2 ^ s := Nat.pow_pos (by omega)
  have h1 : n * 2 ^ s / (m * 2 ^ s) = o := by
    rw [← h, Nat.mul_comm, Nat.mul_add_div (by omega), Nat.div_eq_of_lt hr]; rfl
  have h2 : n * 2 ^ s % (m * 2 ^ s) = r := by
    rw [← h, Nat.mul_comm, Nat.mul_add_mod, Nat.mod_eq_of_lt hr]
  rw [Nat.mul_div_mul_right _ _ hp] at h1
  rw [Nat.mul_mod_mul_right] at h2
  refine ⟨h1.symm, ?_⟩
  rw [← h2, Nat.mul_div_cancel _ hp]

end Go.Proofs.Nums

/- Decimal texts are read back. No program in sight. -/
namespace Go.Proofs.Nums

theorem pvF_dig (ds : List Nat) (h : Dig ds) : pvF ((ds.map digB).reverse) = dval ds := by
  induction ds with
  | nil => rfl
  | cons x ds ih =>
    have hx := h x (by simp)
    rw [List.map_cons, List.reverse_cons, pvF_snoc, ih (fun y hy => h y (by simp [hy])), digB_nat hx, dval]
    omega

theorem pvF_dec (n : Nat) : pvF (decB n) = n := by
  unfold decB
  by_cases h : n = 0
  · subst h; rfl
  · rw [if_neg h, pvF_dig _ (dec_dig n), dval_dec]

theorem dec_last (n : Nat) (h : n ≠ 0) : (decL n).getLast? ≠ some 0 := by
  induction n using Nat.strongRecOn with
  | _ n ih =>
    rw [decL_pos n h]
    by_cases h2 : n / 10 = 0
    · rw [h2, decL_zero]; simp; omega
    · have := ih (n / 10) (by omega) h2
      rw [decL_pos _ h2] at this ⊢
      simpa using this

theorem dec_all (n : Nat) : (decB n).all isDig = true := by
  unfold decB
  by_cases h : n = 0
  · subst h; rfl
  · rw [if_neg h, List.all_reverse, List.all_map, List.all_eq_true]
    intro d hd
    have := digB_nat (dec_dig n d hd)
    have h2 := dec_dig n d hd
    show isDig (digB d) = true
    rw [isDig_iff, this]; omega

theorem decB_len (n : Nat) : 0 < (decB n).length := by
  unfold decB
  by_cases h : n = 0
  · rw [if_pos h]; simp
  · rw [if_neg h, decL_pos n h]; simp

theorem decB_first (n : Nat) : ¬ (bat (decB n) 0 = 48 ∧ 1 < (decB n).length) := by
  rintro ⟨h1, h2⟩
  unfold decB at h1 h2
  by_cases h : n = 0
  · rw [if_pos h] at h2; simp at h2
  · rw [if_neg h] at h1 h2
    have hl := dec_last n h
    obtain ⟨m, d, hm⟩ := eq_snoc (l := decL n) (by rw [decL_pos n h]; simp)
    rw [hm] at h1 hl
    have hd : d < 10 := dec_dig n d (by rw [hm]; simp)
    have hd0 : d ≠ 0 := by intro e; apply hl; rw [e]; simp
    rw [List.map_append, List.reverse_append] at h1
    exact digB_ne hd hd0 h1

end Go.Proofs.Nums
