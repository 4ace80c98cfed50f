/- Risk limits, plain: which ones are good. -/
import Derived.Test.YtlhkjkhbgebgiaaS3
namespace Go.Proofs.Nums

theorem Q.cmp_gt {a b : Q} {z t : Int} {d e : Nat} (na : a.Nf) (nb : b.Nf) (ha : a.Rep z d) (hb : b.Rep t e) (hd : 0 < d) (he : 0 < e) (h : t * (d : Int) < z * (e : Int)) : 0 < Q.cmp a b := by
  have hf : (Q.mk' (!b.norm.neg) b.norm.n b.norm.d).Nf := Q.mk'_nf _ _ _
  have rf := Q.mk'_rep (!b.norm.neg) b.norm.n b.norm.d (Q.norm_d b)
  have rs := Q.addR_rep (Q.norm_d a) hf.1
  rw [← Q.sub_eq] at rs
  rw [sg_flip, ← Q.s_sg] at rf
  rw [Q.nf_norm nb] at rf
  rw [Q.nf_norm na, Q.nf_norm nb] at rs
  rw [Q.nf_norm nb] at hf
  have hS : (Q.sub a b).Nf := Q.addR_nf _ _
  unfold Q.Rep at *
  generalize Q.mk' (!b.neg) b.n b.d = F at *
  have key : 0 < (Q.sub a b).s := by
    have a1 : (0 : Int) < a.d := by have := na.1; omega
    have b1 : (0 : Int) < b.d := by have := nb.1; omega
    have f1 : (0 : Int) < F.d := by have := hf.1; omega
    have s1 : (0 : Int) < (Q.sub a b).d := by have := hS.1; omega
    have d1 : (0 : Int) < d := by omega
    have e1 : (0 : Int) < e := by omega
    push_cast at rs
    generalize (Q.sub a b).s = S at *
    generalize ((Q.sub a b).d : Int) = Sd at *
    generalize a.s = A at *
    generalize b.s = B at *
    generalize F.s = Fs at *
    generalize (a.d : Int) = Ad at *
    generalize (b.d : Int) = Bd at *
    generalize (F.d : Int) = Fd at *
    generalize (d : Int) = D at *
    generalize (e : Int) = E at *
    have k1 : B * Ad < A * Bd := by
      have g1 : (t * D) * (Ad * Bd) < (z * E) * (Ad * Bd) := Int.mul_lt_mul_of_pos_right h (Int.mul_pos a1 b1)
      have g2 : (z * E) * (Ad * Bd) = (A * Bd) * (D * E) := by grind
      have g3 : (t * D) * (Ad * Bd) = (B * Ad) * (D * E) := by grind
      rw [g2, g3] at g1
      exact Int.lt_of_mul_lt_mul_right g1 (Int.le_of_lt (Int.mul_pos d1 e1))
    have k2 : 0 < A * Fd + Fs * Ad := by
      have g1 : (B * Ad) * Fd < (A * Bd) * Fd := Int.mul_lt_mul_of_pos_right k1 f1
      have g2 : (A * Fd + Fs * Ad) * Bd = (A * Bd) * Fd - (B * Ad) * Fd := by grind
      have g3 : 0 * Bd < (A * Fd + Fs * Ad) * Bd := by rw [g2]; omega
      exact Int.lt_of_mul_lt_mul_right g3 (Int.le_of_lt b1)
    have g1 : 0 * Sd < (A * Fd + Fs * Ad) * Sd := Int.mul_lt_mul_of_pos_right k2 s1
    have g2 : 0 * (Ad * Fd) < S * (Ad * Fd) := by
      rw [rs, Int.zero_mul]; rw [Int.zero_mul] at g1; exact g1
    exact Int.lt_of_mul_lt_mul_right g2 (Int.le_of_lt (Int.mul_pos a1 f1))
  unfold Q.cmp
  simp only
  by_cases h1 : (Q.sub a b).neg = true
  · exfalso
    unfold Q.s at key
    rw [if_pos h1] at key
    omega
  · rw [if_neg h1]
    unfold Q.s at key
    rw [if_neg h1] at key
    rw [if_neg (by omega)]
    decide

theorem Q.of1_rep : (Q.of 1).Rep 1 1 := Q.mk'_rep _ _ _ (by decide)
theorem Q.of0_rep : (Q.of 0).Rep 0 1 := Q.mk'_rep _ _ _ (by decide)
theorem Q.cmp_zero_le {q : Q} (h : q.Nf) (hs : q.neg = true ∨ q.n = 0) : Q.cmp q (Q.of 0) ≤ 0 := by
  refine Q.cmp_le (z := q.s) (d := q.d) (t := 0) (e := 1) h (Q.mk'_nf _ _ _) rfl Q.of0_rep h.1 (by decide) ?_
  unfold Q.s
  rcases hs with hs | hs
  · rw [if_pos hs]; omega
  · rw [hs]; split <;> simp
theorem Q.cmp_one_gt {q : Q} (h : q.Nf) (hn : q.neg = false) (h1 : q.d < q.n) : 0 < Q.cmp q (Q.of 1) := by
  refine Q.cmp_gt (z := q.s) (d := q.d) (t := 1) (e := 1) h (Q.mk'_nf _ _ _) rfl Q.of1_rep h.1 (by decide) ?_
  unfold Q.s
  rw [hn]
  simp only [Bool.false_eq_true, if_false]
  omega

end Go.Proofs.Nums
namespace Go.Proofs.Ytlhkjkhbgebgiaa
open Go.RowKit Go.Proofs.Kit Go.Proofs.Nums

/-- Is this a risk limit, as the code reads it? -/
def gokR (neg : Bool) (a b : List Nat) : Bool := validR neg a b && decide (0 < Q.cmp ⟨neg, val a, val b⟩ (Q.of 0)) && decide (Q.cmp ⟨neg, val a, val b⟩ (Q.of 1) ≤ 0)

theorem valid_facts {neg : Bool} {a b : List Nat} (h : validR neg a b = true) : (⟨neg, val a, val b⟩ : Q).Nf ∧ a = limbs (val a) ∧ b = limbs (val b) := by
  unfold validR at h
  have hf : (Q.mk' neg (val a) (val b)).Nf := Q.mk'_nf _ _ _
  obtain ⟨⟨x, n, d⟩, hq⟩ : ∃ q, Q.mk' neg (val a) (val b) = q := ⟨_, rfl⟩
  rw [hq] at h hf
  simp only [Bool.and_eq_true, beq_iff_eq] at h
  obtain ⟨⟨h1, h2⟩, h3⟩ := h
  have h2' : a = limbs n := of_decide_eq_true h2
  have h3' : b = limbs d := of_decide_eq_true h3
  have e1 : val a = n := by rw [h2']; exact val_limbs n
  have e2 : val b = d := by rw [h3']; exact val_limbs d
  rw [e1, e2, h1]
  exact ⟨hf, h2', h3'⟩

theorem gok_facts {neg : Bool} {a b : List Nat} (h : gokR neg a b = true) : (⟨neg, val a, val b⟩ : Q).Nf ∧ a = limbs (val a) ∧ b = limbs (val b) ∧ neg = false ∧ 0 < val a ∧ val a ≤ val b := by
  unfold gokR at h
  simp only [Bool.and_eq_true, decide_eq_true_eq] at h
  obtain ⟨⟨h1, h2⟩, h3⟩ := h
  obtain ⟨g1, g2, g3⟩ := valid_facts h1
  have hn : neg = false := by
    cases neg
    · rfl
    · have := Q.cmp_zero_le g1 (.inl rfl); omega
  have h0 : 0 < val a := by
    rcases Nat.eq_zero_or_pos (val a) with h | h
    · have := Q.cmp_zero_le g1 (.inr h); omega
    · exact h
  refine ⟨g1, g2, g3, hn, h0, ?_⟩
  rcases Nat.lt_or_ge (val b) (val a) with h | h
  · have := Q.cmp_one_gt g1 hn h; omega
  · exact h

end Go.Proofs.Ytlhkjkhbgebgiaa
