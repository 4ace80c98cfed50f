/- Numbers as lists of limbs of 32 bits. No program in sight. -/
namespace Go.Proofs.Nums

def val : List Nat → Nat
  | [] => 0
  | x :: r => x + 4294967296 * val r

def limbsF : Nat → Nat → List Nat
  | 0, _ => []
  | f + 1, n => if n = 0 then [] else n % 4294967296 :: limbsF f (n / 4294967296)

def limbs (n : Nat) : List Nat := limbsF n n

/-- Each limb has 32 bits. -/
def Lim (l : List Nat) : Prop := ∀ x ∈ l, x < 4294967296

theorem Lim.nil : Lim [] := fun _ h => by simp at h
theorem Lim.tail {x : Nat} {l : List Nat} (h : Lim (x :: l)) : Lim l := fun y hy => h y (by simp [hy])
theorem Lim.head {x : Nat} {l : List Nat} (h : Lim (x :: l)) : x < 4294967296 := h x (by simp)
theorem Lim.cons {x : Nat} {l : List Nat} (h : x < 4294967296) (hl : Lim l) : Lim (x :: l) := fun y hy => by
  rw [List.mem_cons] at hy; rcases hy with rfl | hy
  · exact h
  · exact hl y hy
theorem Lim.app {a b : List Nat} (h : Lim a) (k : Lim b) : Lim (a ++ b) := fun y hy => by
  rw [List.mem_append] at hy; rcases hy with hy | hy
  · exact h y hy
  · exact k y hy
theorem Lim.take {l : List Nat} (h : Lim l) (n : Nat) : Lim (l.take n) := fun y hy => h y (List.mem_of_mem_take hy)
theorem Lim.drop {l : List Nat} (h : Lim l) (n : Nat) : Lim (l.drop n) := fun y hy => h y (List.mem_of_mem_drop hy)
theorem Lim.at {l : List Nat} (h : Lim l) (i : Nat) : l.getD i 0 < 4294967296 := by
  rw [List.getD_eq_getElem?_getD]
  cases hi : l[i]? with
  | none => simp
  | some y => simpa using h y (List.mem_of_getElem? hi)

/-- Limb i, 0 beyond the end. -/
def nth (l : List Nat) (i : Nat) : Nat := l.getD i 0

theorem nth_lt {l : List Nat} {i : Nat} (h : i < l.length) : nth l i = l[i] := by unfold nth; rw [List.getD_eq_getElem?_getD, List.getElem?_eq_getElem h]; rfl
theorem nth_ge {l : List Nat} {i : Nat} (h : l.length ≤ i) : nth l i = 0 := by unfold nth; rw [List.getD_eq_getElem?_getD, List.getElem?_eq_none h]; rfl
theorem Lim.nth {l : List Nat} (h : Lim l) (i : Nat) : nth l i < 4294967296 := h.at i

theorem limbsF_fuel : ∀ (f g n : Nat), n ≤ f → n ≤ g → limbsF f n = limbsF g n := by
  intro f
  induction f with
  | zero =>
    intro g n hf hg
    have : n = 0 := by omega
    subst this
    cases g <;> rfl
  | succ f ih =>
    intro g n hf hg
    cases g with
    | zero => have : n = 0 := by omega
              subst this; rfl
    | succ g =>
      unfold limbsF
      split
      · rfl
      · rw [ih g (n / 4294967296) (by omega) (by omega)]

theorem limbs_zero : limbs 0 = [] := rfl
theorem limbs_pos (n : Nat) (h : n ≠ 0) : limbs n = n % 4294967296 :: limbs (n / 4294967296) := by
  obtain ⟨m, rfl⟩ : ∃ m, n = m + 1 := ⟨n - 1, by omega⟩
  unfold limbs
  conv => lhs; unfold limbsF
  rw [if_neg h, limbsF_fuel m ((m + 1) / 4294967296) _ (by omega) (Nat.le_refl _)]

theorem val_limbs (n : Nat) : val (limbs n) = n := by
  induction n using Nat.strongRecOn with
  | _ n ih =>
    by_cases h : n = 0
    · subst h; rfl
    · rw [limbs_pos n h]
      unfold val
      rw [ih _ (by omega)]
      omega

theorem limbs_lim (n : Nat) : Lim (limbs n) := by
  induction n using Nat.strongRecOn with
  | _ n ih =>
    by_cases h : n = 0
    · subst h; exact Lim.nil
    · rw [limbs_pos n h]
      exact Lim.cons (Nat.mod_lt _ (by omega)) (ih _ (by omega))

theorem val_app (a b : List Nat) : val (a ++ b) = val a + 4294967296 ^ a.length * val b := by
  induction a with
  | nil => simp [val]
  | cons x a ih =>
    rw [List.cons_append, val, val, ih, List.length_cons, Nat.pow_succ, Nat.mul_add, Nat.add_assoc]
    congr 2
    rw [← Nat.mul_assoc, Nat.mul_comm 4294967296]

theorem val_lt (l : List Nat) (h : Lim l) : val l < 4294967296 ^ l.length := by
  induction l with
  | nil => simp [val]
  | cons x l ih =>
    have h1 := h.head
    have h2 := ih h.tail
    rw [val, List.length_cons, Nat.pow_succ]
    have : 4294967296 * (val l + 1) ≤ 4294967296 ^ l.length * 4294967296 := by rw [Nat.mul_comm]; exact Nat.mul_le_mul_right _ h2
    omega

theorem val_zeros (n : Nat) : val (List.replicate n 0) = 0 := by
  induction n with
  | zero => rfl
  | succ n ih => rw [List.replicate_succ, val, ih]

theorem val_take_drop (l : List Nat) (k : Nat) : val l = val (l.take k) + 4294967296 ^ (l.take k).length * val (l.drop k) := by
  conv => lhs; rw [← List.take_append_drop k l]
  exact val_app _ _

theorem val_snoc (l : List Nat) (x : Nat) : val (l ++ [x]) = val l + 4294967296 ^ l.length * x := by
  rw [val_app]; simp [val]

/-- No zero limb at the end. -/
def Norm (l : List Nat) : Prop := l.getLast? ≠ some 0

theorem limbs_val (l : List Nat) (h : Lim l) (hn : Norm l) : limbs (val l) = l := by
  induction l with
  | nil => rfl
  | cons x l ih =>
    have h1 := h.head
    have hne : val (x :: l) ≠ 0 := by
      intro h0
      unfold val at h0
      have hx : x = 0 := by omega
      have hv : val l = 0 := by omega
      cases l with
      | nil => apply hn; simp [hx]
      | cons y l =>
        have := ih h.tail (by unfold Norm at hn ⊢; simpa using hn)
        rw [hv, limbs_zero] at this
        simp at this
    rw [limbs_pos _ hne]
    have e1 : val (x :: l) % 4294967296 = x := by rw [val]; omega
    have e2 : val (x :: l) / 4294967296 = val l := by rw [val]; omega
    rw [e1, e2]
    cases l with
    | nil => rfl
    | cons y l => rw [ih h.tail (by unfold Norm at hn ⊢; simpa using hn)]

theorem limbs_norm (n : Nat) : Norm (limbs n) := by
  induction n using Nat.strongRecOn with
  | _ n ih =>
    by_cases h : n = 0
    · subst h; simp [limbs_zero, Norm]
    · rw [limbs_pos n h]
      have h2 := ih (n / 4294967296) (by omega)
      by_cases h3 : n / 4294967296 = 0
      · rw [h3, limbs_zero]; unfold Norm; simp; omega
      · rw [limbs_pos _ h3] at h2 ⊢
        unfold Norm at h2 ⊢
        simpa using h2

/-- Zeros at the end say nothing. -/
theorem limbs_trim (l : List Nat) (h : Lim l) (k : Nat) (hz : val (l.drop k) = 0) (hn : Norm (l.take k)) : limbs (val l) = l.take k := by
  rw [val_take_drop l k, hz, Nat.mul_zero, Nat.add_zero]
  exact limbs_val _ (h.take k) hn

theorem limbs_len_le (n k : Nat) (h : n < 4294967296 ^ k) : (limbs n).length ≤ k := by
  induction k generalizing n with
  | zero => have : n = 0 := by simpa using h
            subst this; exact Nat.le_refl _
  | succ k ih =>
    by_cases h0 : n = 0
    · subst h0; simp [limbs_zero]
    · rw [limbs_pos n h0, List.length_cons]
      have := ih (n / 4294967296) (by rw [Nat.pow_succ] at h; rw [Nat.div_lt_iff_lt_mul (by omega)]; exact h)
      omega

theorem limbs_lt_pow (n : Nat) : n < 4294967296 ^ (limbs n).length := by
  have := val_lt (limbs n) (limbs_lim n)
  rw [val_limbs] at this; exact this

theorem pow_le_limbs (n : Nat) (h : n ≠ 0) : 4294967296 ^ ((limbs n).length - 1) ≤ n := by
  induction n using Nat.strongRecOn with
  | _ n ih =>
    rw [limbs_pos n h, List.length_cons, Nat.add_sub_cancel]
    by_cases h3 : n / 4294967296 = 0
    · rw [h3, limbs_zero]; simp; omega
    · have := ih (n / 4294967296) (by omega) h3
      have hl : 1 ≤ (limbs (n / 4294967296)).length := by rw [limbs_pos _ h3]; simp
      obtain ⟨m, hm⟩ : ∃ m, (limbs (n / 4294967296)).length = m + 1 := ⟨_, (Nat.sub_add_cancel hl).symm⟩
      rw [hm] at this ⊢
      rw [Nat.add_sub_cancel] at this
      rw [Nat.pow_succ]
      calc 4294967296 ^ m * 4294967296 ≤ n / 4294967296 * 4294967296 := Nat.mul_le_mul_right _ this
        _ ≤ n := Nat.div_mul_le_self _ _

theorem limbs_eq_nil {n : Nat} : limbs n = [] ↔ n = 0 := by
  constructor
  · intro h
    have := val_limbs n
    rw [h] at this; exact this.symm
  · rintro rfl; rfl

theorem val_take_succ (l : List Nat) (k : Nat) : val (l.take (k + 1)) = val (l.take k) + 4294967296 ^ k * nth l k := by
  by_cases h : k < l.length
  · rw [List.take_succ_eq_append_getElem h, val_snoc, nth_lt h, List.length_take, Nat.min_eq_left (by omega)]
  · rw [nth_ge (by omega), List.take_of_length_le (by omega), List.take_of_length_le (by omega)]; simp

theorem val_take_all {l : List Nat} {k : Nat} (h : l.length ≤ k) : val (l.take k) = val l := by rw [List.take_of_length_le h]

theorem take_set_lt {l : List Nat} {k j x : Nat} (h : k ≤ j) : (l.set j x).take k = l.take k := by
  rw [List.take_set]
  rw [List.set_eq_of_length_le (by rw [List.length_take]; omega)]

theorem val_take_set (l : List Nat) (k x : Nat) (h : k < l.length) : val ((l.set k x).take (k + 1)) = val (l.take k) + 4294967296 ^ k * x := by
  rw [val_take_succ, take_set_lt (Nat.le_refl _), nth_lt (by rw [List.length_set]; exact h)]
  simp

theorem Lim.set {l : List Nat} (h : Lim l) (k x : Nat) (hx : x < 4294967296) : Lim (l.set k x) := fun y hy => by
  rcases List.mem_or_eq_of_mem_set hy with h1 | h1
  · exact h y h1
  · rw [h1]; exact hx

theorem Lim.zeros (n : Nat) : Lim (List.replicate n 0) := fun y hy => by
  rw [List.mem_replicate] at hy; rw [hy.2]; omega

/-- One step of the addition. -/
theorem add_step {o a b : List Nat} {k c s : Nat} (hk : k < o.length) (hs : s = nth a k + nth b k + c)
    (h : val (o.take k) + 4294967296 ^ k * c = val (a.take k) + val (b.take k)) :
    val ((o.set k (s % 4294967296)).take (k + 1)) + 4294967296 ^ (k + 1) * (s / 4294967296) = val (a.take (k + 1)) + val (b.take (k + 1)) := by
  rw [val_take_set _ _ _ hk, val_take_succ a, val_take_succ b, Nat.pow_succ, Nat.mul_assoc, Nat.add_assoc, ← Nat.mul_add, Nat.mod_add_div, hs, Nat.mul_add, Nat.mul_add]
  omega

theorem nth_set_self {l : List Nat} {k x : Nat} (h : k < l.length) : nth (l.set k x) k = x := by rw [nth_lt (by simpa using h)]; simp
theorem nth_set_ne {l : List Nat} {k j x : Nat} (h : j ≠ k) : nth (l.set k x) j = nth l j := by
  unfold nth; rw [List.getD_eq_getElem?_getD, List.getD_eq_getElem?_getD, List.getElem?_set_ne (fun e => h e.symm)]

def cmpN (m n : Nat) : Int := if m < n then -1 else if n < m then 1 else 0

theorem cmpN_lt {m n : Nat} (h : m < n) : cmpN m n = -1 := by unfold cmpN; rw [if_pos h]
theorem cmpN_gt {m n : Nat} (h : n < m) : cmpN m n = 1 := by unfold cmpN; rw [if_neg (by omega), if_pos h]
theorem cmpN_eq {m n : Nat} (h : m = n) : cmpN m n = 0 := by unfold cmpN; rw [if_neg (by omega), if_neg (by omega)]

theorem len_lt {m n : Nat} (h : (limbs m).length < (limbs n).length) : m < n := by
  have h1 := limbs_lt_pow m
  have h0 : n ≠ 0 := by intro h0; rw [h0, limbs_zero] at h; simp at h
  have h2 := pow_le_limbs n h0
  have h3 : 4294967296 ^ (limbs m).length ≤ 4294967296 ^ ((limbs n).length - 1) := Nat.pow_le_pow_right (by omega) (by omega)
  omega

theorem val_split (l : List Nat) (m : Nat) (h : m < l.length) : val l = val (l.take m) + 4294967296 ^ m * (nth l m + 4294967296 * val (l.drop (m + 1))) := by
  rw [val_take_drop l m, List.length_take, Nat.min_eq_left (by omega), List.drop_eq_getElem_cons h, val, nth_lt h]

theorem val_take_lt (l : List Nat) (h : Lim l) (m : Nat) (hm : m ≤ l.length) : val (l.take m) < 4294967296 ^ m := by
  have := val_lt (l.take m) (h.take m)
  rw [List.length_take, Nat.min_eq_left hm] at this; exact this

theorem val_lt_of {x y : List Nat} {m : Nat} (hx : Lim x) (hm : m < x.length) (hm' : m < y.length) (hd : x.drop (m + 1) = y.drop (m + 1)) (h : nth x m < nth y m) : val x < val y := by
  rw [val_split x m hm, val_split y m hm', hd]
  have h1 := val_take_lt x hx m (by omega)
  have h2 : 4294967296 ^ m * (nth x m + 4294967296 * val (y.drop (m + 1)) + 1) ≤ 4294967296 ^ m * (nth y m + 4294967296 * val (y.drop (m + 1))) := Nat.mul_le_mul_left _ (by omega)
  rw [Nat.mul_add, Nat.mul_one] at h2
  omega

theorem drop_eq_step {x y : List Nat} {m : Nat} (hm : m < x.length) (hm' : m < y.length) (hd : x.drop (m + 1) = y.drop (m + 1)) (h : nth x m = nth y m) : x.drop m = y.drop m := by
  rw [List.drop_eq_getElem_cons hm, List.drop_eq_getElem_cons hm', hd, ← nth_lt hm, ← nth_lt hm', h]

/-- One step of the subtraction. -/
theorem sub_step {o a b : List Nat} {k c s : Nat} (hk : k < o.length) (hs : s + nth b k + c = 4294967296 + nth a k)
    (h : val (o.take k) + val (b.take k) = val (a.take k) + 4294967296 ^ k * c) (hc : s / 4294967296 ≤ 1) :
    val ((o.set k (s % 4294967296)).take (k + 1)) + val (b.take (k + 1)) = val (a.take (k + 1)) + 4294967296 ^ (k + 1) * (1 - s / 4294967296) := by
  rw [val_take_set _ _ _ hk, val_take_succ a, val_take_succ b, Nat.pow_succ, Nat.mul_assoc]
  have e : s % 4294967296 + nth b k + c = nth a k + 4294967296 * (1 - s / 4294967296) := by omega
  have e2 := congrArg (fun x => 4294967296 ^ k * x) e
  simp only [Nat.mul_add] at e2
  omega

theorem val_set (l : List Nat) (k x : Nat) (h : k < l.length) : val (l.set k x) + 4294967296 ^ k * nth l k = val l + 4294967296 ^ k * x := by
  have e1 := val_split (l.set k x) k (by rw [List.length_set]; exact h)
  have e2 := val_split l k h
  rw [take_set_lt (Nat.le_refl _), nth_set_self h, List.drop_set_of_lt (by omega)] at e1
  rw [e1, e2, Nat.mul_add, Nat.mul_add]
  omega

/-- One step of the inner loop of the multiplication: at (i, j). -/
theorem mul_step {o y : List Nat} {i j x c s D : Nat} (hk : i + j < o.length) (hs : s = x * nth y j + nth o (i + j) + c)
    (h : val o + 4294967296 ^ (i + j) * c = D + 4294967296 ^ i * (x * val (y.take j))) :
    val (o.set (i + j) (s % 4294967296)) + 4294967296 ^ (i + (j + 1)) * (s / 4294967296) = D + 4294967296 ^ i * (x * val (y.take (j + 1))) := by
  have e := val_set o (i + j) (s % 4294967296) hk
  rw [val_take_succ y, ← Nat.add_assoc, Nat.pow_succ 4294967296 (i + j), Nat.mul_assoc (4294967296 ^ (i + j))]
  have e3 : 4294967296 ^ (i + j) * (4294967296 * (s / 4294967296)) + 4294967296 ^ (i + j) * (s % 4294967296) = 4294967296 ^ (i + j) * s := by
    rw [← Nat.mul_add]; congr 1; omega
  have e4 : 4294967296 ^ (i + j) * s = 4294967296 ^ i * (x * (4294967296 ^ j * nth y j)) + 4294967296 ^ (i + j) * nth o (i + j) + 4294967296 ^ (i + j) * c := by
    rw [hs, Nat.mul_add, Nat.mul_add, Nat.pow_add]
    congr 2
    rw [Nat.mul_assoc, Nat.mul_left_comm x]
  rw [Nat.mul_add x, Nat.mul_add (4294967296 ^ i)]
  omega

end Go.Proofs.Nums
