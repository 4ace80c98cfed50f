/- Plain laws of fractions for the statements about two and three Ratios. -/
import Derived.Test.YtlhkjkhbgebgiaaMR
import Derived.Test.YtlhkjkhbgebgiaaR12c
namespace Go.Proofs.Nums

theorem cmpD_cmp (a b : Q) : Go.Proofs.Ytlhkjkhbgebgiaa.cmpD (Q.addR a.norm (Q.mk' (!b.norm.neg) b.norm.n b.norm.d)) = Q.cmp a b := by
  rw [← Q.sub_eq]
  have h : (Q.sub a b).Nf := Q.addR_nf _ _
  unfold Q.cmp Go.Proofs.Ytlhkjkhbgebgiaa.cmpD
  simp only
  by_cases h0 : (Q.sub a b).n = 0
  · simp [h0, h.2.1 h0]
  · simp [h0]
theorem Q.add_norm (a b : Q) : Q.add a b = Q.addR a.norm b.norm := rfl

/-- Equal numbers differ by nothing. -/
theorem Q.cmp_self {a b : Q} (h : a.norm = b.norm) : Q.cmp a b = 0 := by
  have hf : (Q.mk' (!b.norm.neg) b.norm.n b.norm.d).Nf := Q.mk'_nf _ _ _
  have r2 := Q.mk'_rep (!b.norm.neg) b.norm.n b.norm.d (Q.norm_d b)
  have r := Q.addR_rep (Q.norm_d a) hf.1
  rw [← Q.sub_eq] at r
  unfold Q.Rep at r r2
  rw [sg_flip, ← Q.s_sg] at r2
  have hs : (Q.sub a b).Nf := Q.addR_nf _ _
  rw [h] at r
  have e0 : b.norm.s * ((Q.mk' (!b.norm.neg) b.norm.n b.norm.d).d : Int) + (Q.mk' (!b.norm.neg) b.norm.n b.norm.d).s * (b.norm.d : Int) = 0 := by
    grind
  rw [e0, Int.zero_mul] at r
  have hne : (((b.norm.d * (Q.mk' (!b.norm.neg) b.norm.n b.norm.d).d : Nat)) : Int) ≠ 0 := by
    have := Nat.mul_pos (Q.norm_d b) hf.1
    omega
  have hz : (Q.sub a b).s = 0 := by
    rcases Int.mul_eq_zero.1 r with h | h
    · exact h
    · exact absurd h hne
  have hn := Q.s_zero.1 hz
  unfold Q.cmp
  simp [hn, hs.2.1 hn]

theorem Q.distr (a b c : Q) : Q.mul c (Q.add a b) = Q.add (Q.mul a c) (Q.mul b c) := by
  rw [Q.mul_norm c, Q.add_norm (Q.mul a c), Q.mul_norm a c, Q.mul_norm b c, Q.add_norm a b]
  have hA := Q.norm_d a
  have hB := Q.norm_d b
  have hC := Q.norm_d c
  obtain ⟨A, eA⟩ : ∃ A, a.norm = A := ⟨_, rfl⟩
  obtain ⟨B, eB⟩ : ∃ B, b.norm = B := ⟨_, rfl⟩
  obtain ⟨C, eC⟩ : ∃ C, c.norm = C := ⟨_, rfl⟩
  rw [eA] at hA
  rw [eB] at hB
  rw [eC] at hC
  rw [eA, eB, eC, Q.nf_norm (Q.addR_nf A B), Q.nf_norm (Q.mul_nf A C), Q.nf_norm (Q.mul_nf B C)]
  clear eA eB eC
  have hS := (Q.addR_nf A B).1
  have hM := (Q.mul_nf A C).1
  have hN := (Q.mul_nf B C).1
  have rS := Q.addR_rep hA hB
  have rM := Q.mul_rep hA hC
  have rN := Q.mul_rep hB hC
  have r1 := Q.mul_rep hC hS
  have r2 := Q.addR_rep hM hN
  refine Q.eq_of_rep (Q.mul_nf _ _) (Q.addR_nf _ _) r1 r2 (Nat.mul_pos hC hS) (Nat.mul_pos hM hN) ?_
  unfold Q.Rep at rS rM rN
  generalize Q.addR A B = S at *
  generalize Q.mul A C = M at *
  generalize Q.mul B C = N at *
  clear r1 r2
  push_cast at *
  have hA' : (A.d : Int) ≠ 0 := by omega
  have hB' : (B.d : Int) ≠ 0 := by omega
  refine Int.eq_of_mul_eq_mul_right hA' (Int.eq_of_mul_eq_mul_right hB' ?_)
  grind

theorem Q.div_mul (a c : Q) (h : c.norm.n ≠ 0) : Q.div (Q.mul a c) c = a.norm := by
  unfold Q.div
  rw [if_neg h, Q.mul_norm a c]
  have hA := Q.norm_nf a
  have hC := Q.norm_d c
  obtain ⟨A, eA⟩ : ∃ A, a.norm = A := ⟨_, rfl⟩
  obtain ⟨C, eC⟩ : ∃ C, c.norm = C := ⟨_, rfl⟩
  rw [eA] at hA
  rw [eC] at hC h
  rw [eA, eC, Q.nf_norm (Q.mul_nf A C)]
  clear eA eC
  have hM := (Q.mul_nf A C).1
  have rM := Q.mul_rep hA.1 hC
  unfold Q.Rep at rM
  generalize Q.mul A C = M at *
  have r := Q.mk'_rep (M.neg != C.neg) (M.n * C.d) (M.d * C.n) (Nat.mul_pos hM (by omega))
  rw [sg_mul] at r
  have hR : A.Rep A.s A.d := rfl
  refine Q.eq_of_rep (Q.mk'_nf _ _ _) hA r hR (Nat.mul_pos hM (by omega)) hA.1 ?_
  have e1 : sg M.neg M.n = M.s := rfl
  rw [e1]
  push_cast at *
  have e2 : C.s = sg C.neg C.n := rfl
  rw [e2] at rM
  clear r hR e2
  unfold sg at rM ⊢
  rcases hneg : C.neg with _ | _
  · simp only [hneg, Bool.false_eq_true, if_false] at rM ⊢
    grind
  · simp only [hneg, if_true] at rM ⊢
    grind
theorem Q.cmp_nil {c : Q} : Q.cmp c ⟨false, 0, 0⟩ = 0 ↔ c.norm.n = 0 := by
  constructor
  · intro h
    rw [Q.cmp_zero h]
    rfl
  · intro h
    refine Q.cmp_self ?_
    have := Q.norm_nf c
    show c.norm = ⟨false, 0, 1⟩
    obtain ⟨h1, h2, h3⟩ := this
    rcases hc : c.norm with ⟨t, x, y⟩
    rw [hc] at h h1 h2 h3
    simp only at h h1 h2 h3
    subst h
    simp at h3 h2
    simp [h2, h3]

end Go.Proofs.Nums
