/- Decimal digits. Division by one limb. No program in sight. -/
import Derived.Test.YteobjelenfjifaaDoorNt
namespace Go.Proofs.Nums

def decF : Nat → Nat → List Nat
  | 0, _ => []
  | f + 1, n => if n = 0 then [] else n % 10 :: decF f (n / 10)

def decL (n : Nat) : List Nat := decF n n

def dval : List Nat → Nat
  | [] => 0
  | d :: r => d + 10 * dval r

def digB (d : Nat) : UInt8 := UInt8.ofNat (48 + d)

/-- The decimal text of n. -/
def decB (n : Nat) : List UInt8 := if n = 0 then [48] else ((decL n).map digB).reverse

theorem decF_fuel : ∀ (f g n : Nat), n ≤ f → n ≤ g → decF f n = decF g n := by
  intro f
  induction f with
  | zero =>
    intro g n hf hg
    have : n = 0 := by omega
    subst this
    cases g <;> rfl
  | succ f ih =>
    intro g n hf hg
    cases g with
    | zero => have : n = 0 := by omega
              subst this; rfl
    | succ g =>
      unfold decF
      split
      · rfl
      · rw [ih g (n / 10) (by omega) (by omega)]

theorem decL_zero : decL 0 = [] := rfl
theorem decL_pos (n : Nat) (h : n ≠ 0) : decL n = n % 10 :: decL (n / 10) := by
  obtain ⟨m, rfl⟩ : ∃ m, n = m + 1 := ⟨n - 1, by omega⟩
  unfold decL
  conv => lhs; unfold decF
  rw [if_neg h, decF_fuel m ((m + 1) / 10) _ (by omega) (Nat.le_refl _)]

theorem dval_dec (n : Nat) : dval (decL n) = n := by
  induction n using Nat.strongRecOn with
  | _ n ih =>
    by_cases h : n = 0
    · subst h; rfl
    · rw [decL_pos n h, dval, ih _ (by omega)]; omega

def Dig (l : List Nat) : Prop := ∀ x ∈ l, x < 10
theorem Dig.nil : Dig [] := fun _ h => by simp at h
theorem Dig.snoc {l : List Nat} {d : Nat} (h : Dig l) (hd : d < 10) : Dig (l ++ [d]) := fun y hy => by
  rcases List.mem_append.1 hy with h1 | h1
  · exact h y h1
  · simp at h1; omega

theorem dec_dig (n : Nat) : Dig (decL n) := by
  induction n using Nat.strongRecOn with
  | _ n ih =>
    by_cases h : n = 0
    · subst h; exact Dig.nil
    · rw [decL_pos n h]
      intro y hy
      rcases List.mem_cons.1 hy with h1 | h1
      · omega
      · exact ih _ (by omega) y h1

theorem dval_snoc (l : List Nat) (x : Nat) : dval (l ++ [x]) = dval l + 10 ^ l.length * x := by
  induction l with
  | nil => simp [dval]
  | cons y l ih => rw [List.cons_append, dval, dval, ih, List.length_cons, Nat.pow_succ, Nat.mul_add, Nat.add_assoc]; congr 2; rw [← Nat.mul_assoc, Nat.mul_comm 10]

theorem dec_dval (l : List Nat) (h : Dig l) (hn : l.getLast? ≠ some 0) : decL (dval l) = l := by
  induction l with
  | nil => rfl
  | cons x l ih =>
    have hx := h x (by simp)
    have hl : Dig l := fun y hy => h y (by simp [hy])
    have hne : dval (x :: l) ≠ 0 := by
      intro h0
      unfold dval at h0
      have hx : x = 0 := by omega
      have hv : dval l = 0 := by omega
      cases l with
      | nil => apply hn; simp [hx]
      | cons y l =>
        have := ih hl (by simpa using hn)
        rw [hv, decL_zero] at this
        simp at this
    rw [decL_pos _ hne]
    have e1 : dval (x :: l) % 10 = x := by rw [dval]; omega
    have e2 : dval (x :: l) / 10 = dval l := by rw [dval]; omega
    rw [e1, e2]
    cases l with
    | nil => rfl
    | cons y l => rw [ih hl (by simpa using hn)]

theorem digB_ne {d : Nat} (h : d < 10) (h0 : d ≠ 0) : digB d ≠ 48 := by
  match d, h, h0 with
  | 1, _, _ => decide
  | 2, _, _ => decide
  | 3, _, _ => decide
  | 4, _, _ => decide
  | 5, _, _ => decide
  | 6, _, _ => decide
  | 7, _, _ => decide
  | 8, _, _ => decide
  | 9, _, _ => decide

theorem digB_nat {d : Nat} (h : d < 10) : (digB d).toNat = 48 + d := by
  unfold digB
  rw [UInt8.toNat_ofNat']; exact Nat.mod_eq_of_lt (by omega)

theorem eq_snoc {l : List Nat} (h : l ≠ []) : ∃ m d, l = m ++ [d] := ⟨l.dropLast, l.getLast h, (List.dropLast_concat_getLast h).symm⟩

theorem dec_bytes (n : Nat) : ∀ (l : List Nat), l.length = n → Dig l → ((l.map digB).reverse).dropWhile (· == 48) = ((decL (dval l)).map digB).reverse := by
  induction n with
  | zero =>
    intro l hl _
    have : l = [] := List.length_eq_zero_iff.1 hl
    subst this; rfl
  | succ n ih =>
    intro l hl hd
    obtain ⟨m, d, rfl⟩ := eq_snoc (l := l) (by intro h; subst h; simp at hl)
    have hm : Dig m := fun y hy => hd y (by simp [hy])
    by_cases h0 : d = 0
    · subst h0
      rw [dval_snoc, Nat.mul_zero, Nat.add_zero, ← ih m (by simpa using hl) hm]
      rw [List.map_append, List.reverse_append]
      rfl
    · rw [dec_dval _ hd (by simp [h0])]
      rw [List.map_append, List.reverse_append]
      have := digB_ne (hd d (by simp)) h0
      show (digB d :: _).dropWhile _ = _
      rw [List.dropWhile_cons]; simp [this]

/-! Division by one limb, from the top. -/
theorem sdiv_step {o a : List Nat} {k r d : Nat} (ho : k < o.length) (ha : k < a.length)
    (h : val (a.drop (k + 1)) = val (o.drop (k + 1)) * d + r) :
    val (a.drop k) = val ((o.set k ((r * 4294967296 + nth a k) / d)).drop k) * d + (r * 4294967296 + nth a k) % d := by
  rw [List.drop_eq_getElem_cons ha, val, h]
  have e : (o.set k ((r * 4294967296 + nth a k) / d))[k]'(by simpa using ho) = (r * 4294967296 + nth a k) / d := by simp
  have e2 : (o.set k ((r * 4294967296 + nth a k) / d)).drop (k + 1) = o.drop (k + 1) := by rw [List.drop_set_of_lt (by omega)]
  have e4 : (o.set k ((r * 4294967296 + nth a k) / d)).drop k = ((r * 4294967296 + nth a k) / d) :: o.drop (k + 1) := by
    rw [List.drop_eq_getElem_cons (l := o.set k ((r * 4294967296 + nth a k) / d)) (by simpa using ho), e, e2]
  rw [e4, val, ← nth_lt ha]
  have := Nat.div_add_mod (r * 4294967296 + nth a k) d
  rw [Nat.mul_comm] at this
  rw [Nat.add_mul]
  generalize (r * 4294967296 + nth a k) / d * d = p at *
  generalize (r * 4294967296 + nth a k) % d = q at *
  have e3 : 4294967296 * val (o.drop (k + 1)) * d = 4294967296 * (val (o.drop (k + 1)) * d) := Nat.mul_assoc ..
  generalize val (o.drop (k + 1)) * d = s at *
  omega

theorem sdiv_lt {r x d : Nat} (hr : r < d) (hx : x < 4294967296) (hd : d < 4294967296) : (r * 4294967296 + x) / d < 4294967296 ∧ (r * 4294967296 + x) % d < d ∧ r * 4294967296 + x < 18446744073709551616 := by
  refine ⟨?_, Nat.mod_lt _ (by omega), by omega⟩
  rw [Nat.div_lt_iff_lt_mul (by omega)]
  omega

end Go.Proofs.Nums
