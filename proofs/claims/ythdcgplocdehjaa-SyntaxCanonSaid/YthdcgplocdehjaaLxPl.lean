import Derived.Test.YthdcgplocdehjaaLxRe
import Derived.Test.YthdcgplocdehjaaLxWg
namespace Go.Proofs.Ythdcgplocdehjaa
open Go.RowKit Go.Proofs.Kit

theorem take_spanL (p : UInt8 → Bool) (l : List UInt8) : l.take (spanL p l) = l.takeWhile p := by
  unfold spanL
  induction l with
  | nil => rfl
  | cons a l ih =>
    by_cases h : p a = true
    · simp [List.takeWhile, h, ih]
    · simp [List.takeWhile, h]
theorem drop_spanL (p : UInt8 → Bool) (l : List UInt8) : l.drop (spanL p l) = l.dropWhile p := by
  unfold spanL
  induction l with
  | nil => rfl
  | cons a l ih =>
    by_cases h : p a = true
    · simp [List.takeWhile, List.dropWhile, h, ih]
    · simp [List.takeWhile, List.dropWhile, h]
theorem takeWhile_all (p : UInt8 → Bool) (l : List UInt8) (h : l.all p = true) : l.takeWhile p = l := by
  induction l with
  | nil => rfl
  | cons a l ih =>
    simp at h
    simp [List.takeWhile, h.1]
    exact ih (by simpa using h.2)
theorem all_takeWhile (p : UInt8 → Bool) (l : List UInt8) : (l.takeWhile p).all p = true := by
  induction l with
  | nil => rfl
  | cons a l ih =>
    by_cases h : p a = true
    · simp [List.takeWhile, h]
    · simp [List.takeWhile, h]
theorem takeWhile_app (p : UInt8 → Bool) (a b : List UInt8) (h : a.all p = true) : (a ++ b).takeWhile p = a ++ b.takeWhile p := by
  induction a with
  | nil => rfl
  | cons x a ih =>
    simp at h
    simp [h.1]
    exact ih (by simpa using h.2)
theorem dropWhile_head (p : UInt8 → Bool) (l : List UInt8) (c : UInt8) (r : List UInt8) (h : l.dropWhile p = c :: r) : p c = false := by
  induction l with
  | nil => simp at h
  | cons a l ih =>
    by_cases hp : p a = true
    · simp [List.dropWhile, hp] at h; exact ih h
    · simp [List.dropWhile, hp] at h; obtain ⟨rfl, _⟩ := h; simpa using hp
theorem letter_tail {c : UInt8} (h : isLetter c = true) : isTail c = true := by simp [isTail, h]
theorem digit_tail {c : UInt8} (h : isDigit c = true) : isTail c = true := by simp [isTail, h]
theorem digits_tails {l : List UInt8} (h : l.all isDigit = true) : l.all isTail = true := by
  rw [List.all_eq_true] at h ⊢; exact fun x hx => digit_tail (h x hx)
theorem letter_not_digit {c : UInt8} (h : isLetter c = true) : isDigit c = false := by
  unfold isLetter at h; unfold isDigit; simp at h; simp; omega

theorem wordL_cons (c : UInt8) (r : List UInt8) : wordL (c :: r) = if isLetter c then spanL isTail (c :: r) else 0 := rfl
theorem spanL_cons_pos {p : UInt8 → Bool} {c : UInt8} (r : List UInt8) (h : p c = true) : spanL p (c :: r) = spanL p r + 1 := by simp [spanL, List.takeWhile, h]
theorem spanL_cons_neg {p : UInt8 → Bool} {c : UInt8} (r : List UInt8) (h : p c = false) : spanL p (c :: r) = 0 := by simp [spanL, List.takeWhile, h]
theorem spanL_all {p : UInt8 → Bool} {l : List UInt8} (h : l.all p = true) : spanL p l = l.length := by unfold spanL; rw [takeWhile_all p l h]

theorem word_yes (l : List UInt8) (h : 0 < wordL l) : wordB (l.take (spanL isTail l)) = true ∧ wordL l = spanL isTail l := by
  cases l with
  | nil => simp [wordL] at h
  | cons c r =>
    rw [wordL_cons] at h ⊢
    split at h
    · rename_i hc
      refine ⟨?_, by rw [if_pos hc]⟩
      rw [take_spanL]
      have e : (c :: r).takeWhile isTail = c :: r.takeWhile isTail := by simp [List.takeWhile, letter_tail hc]
      have ha := all_takeWhile isTail (c :: r)
      rw [e] at ha ⊢
      unfold wordB
      rw [wordL_cons, if_pos hc, spanL_all ha]
      simp
    · omega

theorem word_no (l : List UInt8) (h : ¬ 0 < wordL l) : wordB (l.take (spanL isTail l)) = false := by
  cases l with
  | nil => rfl
  | cons c r =>
    rw [wordL_cons] at h
    by_cases hc : isLetter c = true
    · rw [if_pos hc, spanL_cons_pos r (letter_tail hc)] at h; omega
    · rw [take_spanL]
      cases ht : isTail c
      · simp [List.takeWhile, ht, wordB]
      · simp only [List.takeWhile, ht]
        unfold wordB
        rw [wordL_cons, if_neg hc]
        simp

theorem numL_val (l : List UInt8) : numL l = if spanL isDigit l = 0 ∨ 6 < spanL isDigit l then 0 else if l.head? = some 48 ∧ 1 < spanL isDigit l then 0
    else if (l.dropWhile isDigit).head?.any isTail then 0 else spanL isDigit l := by
  unfold numL; rw [drop_spanL]

theorem span_split (l : List UInt8) : l.takeWhile isTail = l.takeWhile isDigit ++ (l.dropWhile isDigit).takeWhile isTail := by
  conv => lhs; rw [← List.takeWhile_append_dropWhile (p := isDigit) (l := l)]
  exact takeWhile_app _ _ _ (digits_tails (all_takeWhile isDigit l))

theorem num_both (l : List UInt8) : (0 < numL l → numB (l.take (spanL isTail l)) = true ∧ numL l = spanL isTail l) ∧ (¬ 0 < numL l → numB (l.take (spanL isTail l)) = false) := by
  rw [take_spanL, span_split, numL_val]
  have hd := all_takeWhile isDigit l
  have hsp : spanL isTail l = (l.takeWhile isDigit ++ (l.dropWhile isDigit).takeWhile isTail).length := by rw [← span_split]; rfl
  have hsd : spanL isDigit l = (l.takeWhile isDigit).length := rfl
  have hh : (l.takeWhile isDigit) ≠ [] → (l.takeWhile isDigit).head? = l.head? := by
    intro h
    cases l with
    | nil => rfl
    | cons c r =>
      by_cases hc : isDigit c = true
      · simp [List.takeWhile, hc]
      · simp [List.takeWhile, hc] at h
  rw [hsp, hsd]
  generalize ha : l.takeWhile isDigit = a at *
  generalize hb : l.dropWhile isDigit = b at *
  have hb1 : ∀ c r, b = c :: r → isDigit c = false := fun c r h => dropWhile_head isDigit l c r (by rw [hb, h])
  cases b with
  | nil =>
    simp only [List.head?_nil, Option.any_none, List.takeWhile_nil, List.append_nil, Bool.false_eq_true, if_false]
    unfold numB
    rw [hd]
    by_cases h0 : a.length = 0
    · simp [h0]
    · have hne : a ≠ [] := fun h => h0 (by rw [h]; rfl)
      rw [hh hne]
      by_cases h1 : 6 < a.length
      · simp [h1]; try omega
      · by_cases h2 : l.head? = some 48 ∧ 1 < a.length
        · rw [if_neg (by omega), if_pos h2]
          simp [h2.1]; omega
        · rw [if_neg (by omega), if_neg h2]
          refine ⟨fun _ => ⟨?_, rfl⟩, fun h => by omega⟩
          simp
          refine ⟨⟨by omega, by omega⟩, ?_⟩
          by_cases h3 : l.head? = some 48
          · left; have : ¬ 1 < a.length := fun h => h2 ⟨h3, h⟩; omega
          · right; exact h3
  | cons c r =>
    have hc := hb1 c r rfl
    cases ht : isTail c
    · have e : (c :: r).takeWhile isTail = [] := by simp [List.takeWhile, ht]
      simp only [List.head?_cons, Option.any_some, e, List.append_nil, ht, Bool.false_eq_true, if_false]
      unfold numB
      rw [hd]
      by_cases h0 : a.length = 0
      · simp [h0]
      · have hne : a ≠ [] := fun h => h0 (by rw [h]; rfl)
        rw [hh hne]
        by_cases h1 : 6 < a.length
        · simp [h1]; try omega
        · by_cases h2 : l.head? = some 48 ∧ 1 < a.length
          · rw [if_neg (by omega), if_pos h2]
            simp [h2.1]; omega
          · rw [if_neg (by omega), if_neg h2]
            refine ⟨fun _ => ⟨?_, rfl⟩, fun h => by omega⟩
            simp
            refine ⟨⟨by omega, by omega⟩, ?_⟩
            by_cases h3 : l.head? = some 48
            · left; have : ¬ 1 < a.length := fun h => h2 ⟨h3, h⟩; omega
            · right; exact h3
    · have e : (c :: r).takeWhile isTail = c :: r.takeWhile isTail := by simp [List.takeWhile, ht]
      simp only [List.head?_cons, Option.any_some, ht, if_true]
      have hz : (if a.length = 0 ∨ 6 < a.length then 0 else if l.head? = some 48 ∧ 1 < a.length then 0 else 0) = 0 := by split; rfl; split <;> rfl
      rw [hz]
      refine ⟨fun h => by omega, fun _ => ?_⟩
      unfold numB
      rw [e, List.all_append, List.all_cons, hc]
      simp

theorem isMark_in (c : UInt8) : isMark c = inL c [123, 125, 59, 44, 47] := by
  have key : ∀ l : List UInt8, decide (0 ≤ Lib.indexByte l c) = inL c l := by
    intro l
    induction l with
    | nil => rfl
    | cons b l ih =>
      unfold Lib.indexByte inL
      rw [List.any_cons]
      have hge := Lib.indexByte_ge l c
      by_cases hb : b = c
      · subst hb; simp
      · have h1 : (b == c) = false := by simpa using hb
        have h2 : ((b.toNat : Int) == (c.toNat : Int)) = false := by rw [beq_eq_false_iff_ne]; intro h; exact hb (UInt8.toNat_inj.1 (by omega))
        rw [h1, h2, if_neg (by simp), Bool.false_or]
        unfold inL at ih
        rw [← ih]
        split
        · rename_i h; simp at h; rw [h]
        · rename_i h; simp at h; rw [Bool.eq_iff_iff]; simp; omega
  exact key _

theorem next_one (l : List UInt8) : nextL l = oneL l := by
  unfold nextL oneL
  by_cases h1 : 0 < wordL l
  · have := word_yes l h1
    rw [if_pos h1, this.1, if_pos rfl, this.2]
  · rw [if_neg h1, word_no l h1, if_neg (c := false = true) (by simp)]
    by_cases h2 : 0 < numL l
    · have := (num_both l).1 h2
      rw [if_pos h2, this.1, if_pos rfl, this.2]
    · rw [if_neg h2, (num_both l).2 h2, if_neg (c := false = true) (by simp)]
      cases l with
      | nil => rfl
      | cons c r =>
        simp only []
        rw [isMark_in]
        by_cases h3 : ((c.toNat : Int) == 34) = true
        · have h4 : inL c [123, 125, 59, 44, 47] = false := by
            simp at h3; simp [inL, h3]
          rw [h3, h4]; simp
        · rw [if_neg h3]
          have h3' : ((c.toNat : Int) == 34) = false := by simpa using h3
          rw [h3']; simp

/-! bare -/
theorem cutL_span (l : List UInt8) : cutL l = if spanL noSlash l < l.length then some (l.take (spanL noSlash l), l.drop (spanL noSlash l + 1)) else none := by
  have key : Lib.indexByte l 47 = if spanL noSlash l < l.length then (spanL noSlash l : Int) else -1 := by
    induction l with
    | nil => rfl
    | cons b l ih =>
      unfold Lib.indexByte
      by_cases hb : b = 47
      · subst hb; rw [spanL_cons_neg l (by rfl)]; simp
      · have h1 : (b == 47) = false := by simpa using hb
        have h2 : noSlash b = true := by
          unfold noSlash; simp; intro h; exact hb (UInt8.toNat_inj.1 (by simp; omega))
        rw [h1, if_neg (by simp), spanL_cons_pos l h2, ih, List.length_cons]
        by_cases h3 : spanL noSlash l < l.length
        · rw [if_pos h3, if_neg (by simp), if_pos (by omega)]; omega
        · rw [if_neg h3, if_pos (by rfl), if_neg (by omega)]
  unfold cutL
  rw [key]
  by_cases h : spanL noSlash l < l.length
  · rw [if_pos h, if_pos h, if_pos (by omega)]; simp
  · rw [if_neg h, if_neg h, if_neg (by omega)]

theorem wordB_eq (l : List UInt8) (h : 0 < l.length) : wordB l = decide (wordL l = l.length) := by unfold wordB; simp [h]

theorem numB_iff (l : List UInt8) : numB l = (decide (0 < l.length) && decide (numL l = l.length)) := by
  rw [numL_val]
  by_cases hall : l.all isDigit = true
  · have e1 := spanL_all hall
    have e2 : l.dropWhile isDigit = [] := by rw [← drop_spanL, e1, List.drop_length]
    rw [e1, e2]
    unfold numB
    rw [hall]
    simp only [List.head?_nil, Option.any_none, Bool.false_eq_true, if_false]
    by_cases h0 : l.length = 0
    · simp [h0]
    · by_cases h1 : 6 < l.length
      · rw [if_pos (by omega), show decide (l.length ≤ 6) = false by simp; omega, show decide (0 = l.length) = false by simp; omega]; simp
      · rw [if_neg (by omega)]
        by_cases h2 : l.head? = some 48 ∧ 1 < l.length
        · rw [if_pos h2, show decide (l.length = 1) = false by simp; omega, show decide (0 = l.length) = false by simp; omega]; simp [h2.1]
        · rw [if_neg h2]
          rw [Bool.eq_iff_iff]; simp
          constructor
          · intro _; omega
          · intro _
            refine ⟨⟨by omega, by omega⟩, ?_⟩
            by_cases h3 : l.head? = some 48
            · left; have : ¬ 1 < l.length := fun h => h2 ⟨h3, h⟩; omega
            · right; exact h3
  · have e1 : numB l = false := by unfold numB; rw [Bool.not_eq_true] at hall; rw [hall]; rfl
    rw [e1]
    have e2 : spanL isDigit l < l.length := by
      have h1 := spanL_le isDigit l
      rcases Nat.lt_or_ge (spanL isDigit l) l.length with h | h
      · exact h
      · exfalso; apply hall
        have h3 := take_spanL isDigit l
        rw [List.take_of_length_le (by omega)] at h3
        rw [h3]; exact all_takeWhile _ _
    symm
    rw [Bool.and_eq_false_iff]
    right
    simp
    split
    · intro h; rw [← h] at e2; omega
    · split
      · intro h; rw [← h] at e2; omega
      · split
        · intro h; rw [← h] at e2; omega
        · omega

theorem slash_not_tail {c : UInt8} (h : noSlash c = false) : isTail c = false := by
  unfold noSlash at h; simp at h; simp [isTail, isLetter, isDigit, h]

theorem wordL_full {l : List UInt8} (h0 : 0 < l.length) (h : wordL l = l.length) : l.all isTail = true := by
  cases l with
  | nil => simp at h0
  | cons c r =>
    rw [wordL_cons] at h
    split at h
    · have h3 := take_spanL isTail (c :: r)
      rw [List.take_of_length_le (by omega)] at h3
      rw [h3]; exact all_takeWhile _ _
    · simp at h

theorem numL_full {l : List UInt8} (h0 : 0 < l.length) (h : numL l = l.length) : l.all isTail = true := by
  have h1 : numB l = true := by rw [numB_iff]; simp [h, h0]
  unfold numB at h1; simp at h1
  exact digits_tails (by simpa using h1.1.1.1)

theorem bare_eq (l : List UInt8) : bareL l = rbareL l := by
  unfold bareL rbareL
  rw [cutL_span]
  by_cases h0 : l.length = 0
  · have : l = [] := List.eq_nil_of_length_eq_zero h0
    subst this; rfl
  · rw [if_neg h0]
    by_cases hs : spanL noSlash l < l.length
    · rw [if_pos hs, if_pos hs]
      have hnt : ¬ l.all isTail = true := by
        intro h
        have hx : l.all noSlash = true := by
          rw [List.all_eq_true] at h ⊢
          intro x hx
          cases hn : noSlash x
          · have := slash_not_tail hn; rw [h x hx] at this; simp at this
          · rfl
        rw [spanL_all hx] at hs; omega
      rw [if_neg (by
        rintro (h | h)
        · exact hnt (wordL_full (by omega) h)
        · exact hnt (numL_full (by omega) h))]
      simp only []
      rw [numB_iff, numB_iff]
      cases decide (0 < (l.take (spanL noSlash l)).length) <;> cases decide (0 < (l.drop (spanL noSlash l + 1)).length) <;> cases decide (numL (l.take (spanL noSlash l)) = (l.take (spanL noSlash l)).length) <;> simp
    · rw [if_neg hs, if_neg hs]
      rw [wordB_eq l (by omega), numB_iff]
      by_cases h1 : wordL l = l.length ∨ numL l = l.length
      · rw [if_pos h1]; rcases h1 with h1 | h1 <;> simp [h1]; omega
      · rw [if_neg h1]
        have h2 : ¬ wordL l = l.length := fun h => h1 (.inl h)
        have h3 : ¬ numL l = l.length := fun h => h1 (.inr h)
        simp [h2, h3]

end Go.Proofs.Ythdcgplocdehjaa
