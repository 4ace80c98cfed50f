/- The texts of the Ratios, read: the plain part. -/
import Derived.Test.YtcbocdkpdedogaaDoorM22
import Derived.Test.YtcbocdkpdedogaaDoorMR
namespace Go.Proofs.YtcbocdkpdedogaaDoor
open Go.RowKit Go.Proofs.Kit Go.Proofs.Nums

theorem ib_none {l : List UInt8} {c : UInt8} (h : ∀ x ∈ l, x ≠ c) : Lib.indexByte l c = -1 := by
  induction l with
  | nil => rfl
  | cons b l ih =>
    unfold Lib.indexByte
    rw [if_neg (by rw [beq_iff_eq]; exact h b (List.mem_cons_self ..)), ih (fun x hx => h x (List.mem_cons_of_mem _ hx))]
    rfl
theorem ib_app {l t : List UInt8} {c : UInt8} (h : ∀ x ∈ l, x ≠ c) : Lib.indexByte (l ++ c :: t) c = l.length := by
  induction l with
  | nil => simp [Lib.indexByte]
  | cons b l ih =>
    rw [List.cons_append]
    unfold Lib.indexByte
    rw [if_neg (by rw [beq_iff_eq]; exact h b (List.mem_cons_self ..)), ih (fun x hx => h x (List.mem_cons_of_mem _ hx))]
    rw [if_neg (by rw [beq_iff_eq]; omega), List.length_cons]
    omega

/-- The sign and the two parts of a text. -/
def partN (l : List UInt8) : Bool := [45].isPrefixOf l
def restN (l : List UInt8) : List UInt8 := if partN l then l.drop 1 else l
def partA (l : List UInt8) : List UInt8 := (cutB (restN l)).1
def partB (l : List UInt8) : List UInt8 := if (cutB (restN l)).2.2 then (cutB (restN l)).2.1 else [49]
/-- The Ratio that a text tells, if it tells one. -/
def ratP (l : List UInt8) : Q := Q.mk' (partN l) (pvF (partA l)) (pvF (partB l))
def okP (l : List UInt8) : Bool := numB (partA l) && numB (partB l) && (ratB (ratP l) == l)

theorem dec_ne (n : Nat) (c : UInt8) (hc : isDig c = false) : ∀ x ∈ decB n, x ≠ c := by
  intro x hx e
  subst e
  have := dec_all n
  rw [List.all_eq_true] at this
  rw [this x hx] at hc
  cases hc

theorem partN_rat (q : Q) : partN (ratB q) = q.neg := by
  unfold partN ratB
  cases q.neg
  · have h1 := decB_len q.n
    have h2 := dec_ne q.n 45 rfl
    cases hh : decB q.n with
    | nil => rw [hh] at h1; simp at h1
    | cons a t =>
      rw [hh] at h2
      have := h2 a (List.mem_cons_self ..)
      simp [List.isPrefixOf]
      exact fun e => this e.symm
  · simp [List.isPrefixOf]

theorem rest_rat (q : Q) : restN (ratB q) = decB q.n ++ (if q.d = 1 then [] else 47 :: decB q.d) := by
  unfold restN
  rw [partN_rat]
  unfold ratB
  cases q.neg <;> simp

theorem cut_rat (n d : Nat) : cutB (decB n ++ (if d = 1 then [] else 47 :: decB d)) = if d = 1 then (decB n, [], false) else (decB n, decB d, true) := by
  have h := dec_ne n 47 rfl
  unfold cutB
  by_cases hd : d = 1
  · rw [if_pos hd, if_pos hd, List.append_nil, ib_none h, if_pos (by decide)]
  · rw [if_neg hd, if_neg hd, ib_app h, if_neg (by omega)]
    rw [show ((decB n).length : Int).toNat = (decB n).length by omega, List.take_left]
    simp

theorem parts_rat (q : Q) : partN (ratB q) = q.neg ∧ partA (ratB q) = decB q.n ∧ partB (ratB q) = decB q.d := by
  refine ⟨partN_rat q, ?_, ?_⟩
  · unfold partA
    rw [rest_rat, cut_rat]
    split <;> rfl
  · unfold partB
    rw [rest_rat, cut_rat]
    by_cases hd : q.d = 1
    · rw [if_pos hd, if_neg (by simp), hd]; rfl
    · rw [if_neg hd, if_pos rfl]

theorem ratP_rat {q : Q} (h : q.Nf) : ratP (ratB q) = q := by
  obtain ⟨h1, h2, h3⟩ := parts_rat q
  unfold ratP
  rw [h1, h2, h3, pvF_dec, pvF_dec]
  exact Q.nf_norm h

theorem okP_rat {q : Q} (h : q.Nf) : okP (ratB q) = true := by
  obtain ⟨h1, h2, h3⟩ := parts_rat q
  unfold okP
  rw [ratP_rat h, h2, h3, numB_dec, numB_dec]
  simp

/-- What is accepted has a divisor that is not 0. -/
theorem okP_den {l : List UInt8} (h : okP l = true) : 0 < pvF (partB l) := by
  rcases Nat.eq_zero_or_pos (pvF (partB l)) with h0 | h0
  · exfalso
    unfold okP at h
    have e : ratP l = ⟨false, 0, 1⟩ := by unfold ratP; exact Q.mk'_zero (.inr h0)
    rw [e] at h
    simp only [Bool.and_eq_true, beq_iff_eq] at h
    have hl : l = [48] := h.2.symm
    rw [hl] at h0
    exact absurd h0 (by decide)
  · exact h0

end Go.Proofs.YtcbocdkpdedogaaDoor
