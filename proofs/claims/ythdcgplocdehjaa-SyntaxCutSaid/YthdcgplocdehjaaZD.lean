import Derived.Test.YthdcgplocdehjaaZC
import Derived.Test.YthdcgplocdehjaaZB
namespace Go.Proofs.Ythdcgplocdehjaa
open Go.RowKit Go.Proofs.Kit

theorem take_spanL (p : UInt8 → Bool) (l : List UInt8) : l.take (spanL p l) = l.takeWhile p := by
  unfold spanL
  induction l with
  | nil => rfl
  | cons a l ih =>
    by_cases h : p a = true
    · simp [List.takeWhile, h, ih]
    · simp [List.takeWhile, h]
theorem drop_spanL (p : UInt8 → Bool) (l : List UInt8) : l.drop (spanL p l) = l.dropWhile p := by
  unfold spanL
  induction l with
  | nil => rfl
  | cons a l ih =>
    by_cases h : p a = true
    · simp [List.takeWhile, List.dropWhile, h, ih]
    · simp [List.takeWhile, List.dropWhile, h]
theorem takeWhile_all (p : UInt8 → Bool) (l : List UInt8) (h : l.all p = true) : l.takeWhile p = l := by
  induction l with
  | nil => rfl
  | cons a l ih =>
    simp at h
    simp [List.takeWhile, h.1]
    exact ih (by simpa using h.2)
theorem all_takeWhile (p : UInt8 → Bool) (l : List UInt8) : (l.takeWhile p).all p = true := by
  induction l with
  | nil => rfl
  | cons a l ih =>
    by_cases h : p a = true
    · simp [List.takeWhile, h]
    · simp [List.takeWhile, h]
theorem takeWhile_app (p : UInt8 → Bool) (a b : List UInt8) (h : a.all p = true) : (a ++ b).takeWhile p = a ++ b.takeWhile p := by
  induction a with
  | nil => rfl
  | cons x a ih =>
    simp at h
    simp [h.1]
    exact ih (by simpa using h.2)
theorem dropWhile_head (p : UInt8 → Bool) (l : List UInt8) (c : UInt8) (r : List UInt8) (h : l.dropWhile p = c :: r) : p c = false := by
  induction l with
  | nil => simp at h
  | cons a l ih =>
    by_cases hp : p a = true
    · simp [List.dropWhile, hp] at h; exact ih h
    · simp [List.dropWhile, hp] at h; obtain ⟨rfl, _⟩ := h; simpa using hp
theorem letter_tail {c : UInt8} (h : isLetter c = true) : isTail c = true := by simp [isTail, h]
theorem digit_tail {c : UInt8} (h : isDigit c = true) : isTail c = true := by simp [isTail, h]
theorem digits_tails {l : List UInt8} (h : l.all isDigit = true) : l.all isTail = true := by
  rw [List.all_eq_true] at h ⊢; exact fun x hx => digit_tail (h x hx)
theorem letter_not_digit {c : UInt8} (h : isLetter c = true) : isDigit c = false := by
  unfold isLetter at h; unfold isDigit; simp at h; simp; omega

theorem wordL_cons (c : UInt8) (r : List UInt8) : wordL (c :: r) = if isLetter c then spanL isTail (c :: r) else 0 := rfl
theorem spanL_cons_pos {p : UInt8 → Bool} {c : UInt8} (r : List UInt8) (h : p c = true) : spanL p (c :: r) = spanL p r + 1 := by simp [spanL, List.takeWhile, h]
theorem spanL_cons_neg {p : UInt8 → Bool} {c : UInt8} (r : List UInt8) (h : p c = false) : spanL p (c :: r) = 0 := by simp [spanL, List.takeWhile, h]
theorem spanL_all {p : UInt8 → Bool} {l : List UInt8} (h : l.all p = true) : spanL p l = l.length := by unfold spanL; rw [takeWhile_all p l h]

theorem word_yes (l : List UInt8) (h : 0 < wordL l) : wordB (l.take (spanL isTail l)) = true ∧ wordL l = spanL isTail l := by
  cases l with
  | nil => simp [wordL] at h
  | cons c r =>
    rw [wordL_cons] at h ⊢
    split at h
    · rename_i hc
      refine ⟨?_, by rw [if_pos hc]⟩
      rw [take_spanL]
      have e : (c :: r).takeWhile isTail = c :: r.takeWhile isTail := by simp [List.takeWhile, letter_tail hc]
      have ha := all_takeWhile isTail (c :: r)
      rw [e] at ha ⊢
      unfold wordB
      rw [wordL_cons, if_pos hc, spanL_all ha]
      simp
    · omega

theorem word_no (l : List UInt8) (h : ¬ 0 < wordL l) : wordB (l.take (spanL isTail l)) = false := by
  cases l with
  | nil => rfl
  | cons c r =>
    rw [wordL_cons] at h
    by_cases hc : isLetter c = true
    · rw [if_pos hc, spanL_cons_pos r (letter_tail hc)] at h; omega
    · rw [take_spanL]
      cases ht : isTail c
      · simp [List.takeWhile, ht, wordB]
      · simp only [List.takeWhile, ht]
        unfold wordB
        rw [wordL_cons, if_neg hc]
        simp

theorem numL_val (l : List UInt8) : numL l = if spanL isDigit l = 0 ∨ 6 < spanL isDigit l then 0 else if l.head? = some 48 ∧ 1 < spanL isDigit l then 0
    else if (l.dropWhile isDigit).head?.any isTail then 0 else spanL isDigit l := by
  unfold numL; rw [drop_spanL]

theorem span_split (l : List UInt8) : l.takeWhile isTail = l.takeWhile isDigit ++ (l.dropWhile isDigit).takeWhile isTail := by
  conv => lhs; rw [← List.takeWhile_append_dropWhile (p := isDigit) (l := l)]
  exact takeWhile_app _ _ _ (digits_tails (all_takeWhile isDigit l))

theorem num_both (l : List UInt8) : (0 < numL l → numB (l.take (spanL isTail l)) = true ∧ numL l = spanL isTail l) ∧ (¬ 0 < numL l → numB (l.take (spanL isTail l)) = false) := by
  rw [take_spanL, span_split, numL_val]
  have hd := all_takeWhile isDigit l
  have hsp : spanL isTail l = (l.takeWhile isDigit ++ (l.dropWhile isDigit).takeWhile isTail).length := by rw [← span_split]; rfl
  have hsd : spanL isDigit l = (l.takeWhile isDigit).length := rfl
  have hh : (l.takeWhile isDigit) ≠ [] → (l.takeWhile isDigit).head? = l.head? := by
    intro h
    cases l with
    | nil => rfl
    | cons c r =>
      by_cases hc : isDigit c = true
      · simp [List.takeWhile, hc]
      · simp [List.takeWhile, hc] at h
  rw [hsp, hsd]
  generalize ha : l.takeWhile isDigit = a at *
  generalize hb : l.dropWhile isDigit = b at *
  have hb1 : ∀ c r, b = c :: r → isDigit c = false := fun c r h => dropWhile_head isDigit l c r (by rw [hb, h])
  cases b with
  | nil =>
    simp only [List.head?_nil, Option.any_none, List.takeWhile_nil, List.append_nil, Bool.false_eq_true, if_false]
    unfold numB
    rw [hd]
    by_cases h0 : a.length = 0
    · simp [h0]
    · have hne : a ≠ [] := fun h => h0 (by rw [h]; rfl)
      rw [hh hne]
      by_cases h1 : 6 < a.length
      · simp [h1]; try omega
      · by_cases h2 : l.head? = some 48 ∧ 1 < a.length
        · rw [if_neg (by omega), if_pos h2]
          simp [h2.1]; omega
        · rw [if_neg (by omega), if_neg h2]
          refine ⟨fun _ => ⟨?_, rfl⟩, fun h => by omega⟩
          simp
          refine ⟨⟨by omega, by omega⟩, ?_⟩
          by_cases h3 : l.head? = some 48
          · left; have : ¬ 1 < a.length := fun h => h2 ⟨h3, h⟩; omega
          · right; exact h3
  | cons c r =>
    have hc := hb1 c r rfl
    cases ht : isTail c
    · have e : (c :: r).takeWhile isTail = [] := by simp [List.takeWhile, ht]
      simp only [List.head?_cons, Option.any_some, e, List.append_nil, ht, Bool.false_eq_true, if_false]
      unfold numB
      rw [hd]
      by_cases h0 : a.length = 0
      · simp [h0]
      · have hne : a ≠ [] := fun h => h0 (by rw [h]; rfl)
        rw [hh hne]
        by_cases h1 : 6 < a.length
        · simp [h1]; try omega
        · by_cases h2 : l.head? = some 48 ∧ 1 < a.length
          · rw [if_neg (by omega), if_pos h2]
            simp [h2.1]; omega
          · rw [if_neg (by omega), if_neg h2]
            refine ⟨fun _ => ⟨?_, rfl⟩, fun h => by omega⟩
            simp
            refine ⟨⟨by omega, by omega⟩, ?_⟩
            by_cases h3 : l.head? = some 48
            · left; have : ¬ 1 < a.length := fun h => h2 ⟨h3, h⟩; omega
            · right; exact h3
    · have e : (c :: r).takeWhile isTail = c :: r.takeWhile isTail := by simp [List.takeWhile, ht]
      simp only [List.head?_cons, Option.any_some, ht, if_true]
      have hz : (if a.length = 0 ∨ 6 < a.length then 0 else if l.head? = some 48 ∧ 1 < a.length then 0 else 0) = 0 := by split; rfl; split <;> rfl
      rw [hz]
      refine ⟨fun h => by omega, fun _ => ?_⟩
      unfold numB
      rw [e, List.all_append, List.all_cons, hc]
      simp

theorem isMark_in (c : UInt8) : isMark c = inL c [123, 125, 59, 44, 47] := by
  have key : ∀ l : List UInt8, decide (0 ≤ Lib.indexByte l c) = inL c l := by
    intro l
    induction l with
    | nil => rfl
    | cons b l ih =>
      unfold Lib.indexByte inL
      rw [List.any_cons]
      have hge := Lib.indexByte_ge l c
      by_cases hb : b = c
      · subst hb; simp
      · have h1 : (b == c) = false := by simpa using hb
        have h2 : ((b.toNat : Int) == (c.toNat : Int)) = false := by rw [beq_eq_false_iff_ne]; intro h; exact hb (UInt8.toNat_inj.1 (by omega))
        rw [h1, h2, if_neg (by simp), Bool.false_or]
        unfold inL at ih
        rw [← ih]
        split
        · rename_i h; simp at h; rw [h]
        · rename_i h; simp at h; rw [Bool.eq_iff_iff]; simp; omega
  exact key _

theorem next_one (l : List UInt8) : nextL l = oneL l := by
  unfold nextL oneL
  by_cases h1 : 0 < wordL l
  · have := word_yes l h1
    rw [if_pos h1, this.1, if_pos rfl, this.2]
  · rw [if_neg h1, word_no l h1, if_neg (c := false = true) (by simp)]
    by_cases h2 : 0 < numL l
    · have := (num_both l).1 h2
      rw [if_pos h2, this.1, if_pos rfl, this.2]
    · rw [if_neg h2, (num_both l).2 h2, if_neg (c := false = true) (by simp)]
      cases l with
      | nil => rfl
      | cons c r =>
        simp only []
        rw [isMark_in]
        by_cases h3 : ((c.toNat : Int) == 34) = true
        · have h4 : inL c [123, 125, 59, 44, 47] = false := by
            simp at h3; simp [inL, h3]
          rw [h3, h4]; simp
        · rw [if_neg h3]
          have h3' : ((c.toNat : Int) == 34) = false := by simpa using h3
          rw [h3']; simp

/-! bare -/
theorem cutL_span (l : List UInt8) : cutL l = if spanL noSlash l < l.length then some (l.take (spanL noSlash l), l.drop (spanL noSlash l + 1)) else none := by
  have key : Lib.indexByte l 47 = if spanL noSlash l < l.length then (spanL noSlash l : Int) else -1 := by
    induction l with
    | nil => rfl
    | cons b l ih =>
      unfold Lib.indexByte
      by_cases hb : b = 47
      · subst hb; rw [spanL_cons_neg l (by rfl)]; simp
      · have h1 : (b == 47) = false := by simpa using hb
        have h2 : noSlash b = true := by
          unfold noSlash; simp; intro h; exact hb (UInt8.toNat_inj.1 (by simp; omega))
        rw [h1, if_neg (by simp), spanL_cons_pos l h2, ih, List.length_cons]
        by_cases h3 : spanL noSlash l < l.length
        · rw [if_pos h3, if_neg (by simp), if_pos (by omega)]; omega
        · rw [if_neg h3, if_pos (by rfl), if_neg (by omega)]
  unfold cutL
  rw [key]
  by_cases h : spanL noSlash l < l.length
  · rw [if_pos h, if_pos h, if_pos (by omega)]; simp
  · rw [if_neg h, if_neg h, if_neg (by omega)]

theorem wordB_eq (l : List UInt8) (h : 0 < l.length) : wordB l = decide (wordL l = l.length) := by unfold wordB; simp [h]

theorem numB_iff (l : List UInt8) : numB l = (decide (0 < l.length) && decide (numL l = l.length)) := by
  rw [numL_val]
  by_cases hall : l.all isDigit = true
  · have e1 := spanL_all hall
    have e2 : l.dropWhile isDigit = [] := by rw [← drop_spanL, e1, List.drop_length]
    rw [e1, e2]
    unfold numB
    rw [hall]
    simp only [List.head?_nil, Option.any_none, Bool.false_eq_true, if_false]
    by_cases h0 : l.length = 0
    · simp [h0]
    · by_cases h1 : 6 < l.length
      · rw [if_pos (by omega), show decide (l.length ≤ 6) = false by simp; omega, show decide (0 = l.length) = false by simp; omega]; simp
      · rw [if_neg (by omega)]
        by_cases h2 : l.head? = some 48 ∧ 1 < l.length
        · rw [if_pos h2, show decide (l.length = 1) = false by simp; omega, show decide (0 = l.length) = false by simp; omega]; simp [h2.1]
        · rw [if_neg h2]
          rw [Bool.eq_iff_iff]; simp
          constructor
          · intro _; omega
          · intro _
            refine ⟨⟨by omega, by omega⟩, ?_⟩
            by_cases h3 : l.head? = some 48
            · left; have : ¬ 1 < l.length := fun h => h2 ⟨h3, h⟩; omega
            · right; exact h3
  · have e1 : numB l = false := by unfold numB; rw [Bool.not_eq_true] at hall; rw [hall]; rfl
    rw [e1]
    have e2 : spanL isDigit l < l.length := by
      have h1 := spanL_le isDigit l
      rcases Nat.lt_or_ge (spanL isDigit l) l.length with h | h
      · exact h
      · exfalso; apply hall
        have h3 := take_spanL isDigit l
        rw [List.take_of_length_le (by omega)] at h3
        rw [h3]; exact all_takeWhile _ _
    symm
    rw [Bool.and_eq_false_iff]
    right
    simp
    split
    · intro h; rw [← h] at e2; omega
    · split
      · intro h; rw [← h] at e2; omega
      · split
        · intro h; rw [← h] at e2; omega
        · omega

theorem slash_not_tail {c : UInt8} (h : noSlash c = false) : isTail c = false := by
  unfold noSlash at h; simp at h; simp [isTail, isLetter, isDigit, h]

theorem wordL_full {l : List UInt8} (h0 : 0 < l.length) (h : wordL l = l.length) : l.all isTail = true := by
  cases l with
  | nil => simp at h0
  | cons c r =>
    rw [wordL_cons] at h
    split at h
    · have h3 := take_spanL isTail (c :: r)
      rw [List.take_of_length_le (by omega)] at h3
      rw [h3]; exact all_takeWhile _ _
    · simp at h

theorem numL_full {l : List UInt8} (h0 : 0 < l.length) (h : numL l = l.length) : l.all isTail = true := by
  have h1 : numB l = true := by rw [numB_iff]; simp [h, h0]
  unfold numB at h1; simp at h1
  exact digits_tails (by simpa using h1.1.1.1)

theorem bare_eq (l : List UInt8) : bareL l = rbareL l := by
  unfold bareL rbareL
  rw [cutL_span]
  by_cases h0 : l.length = 0
  · have : l = [] := List.eq_nil_of_length_eq_zero h0
    subst this; rfl
  · rw [if_neg h0]
    by_cases hs : spanL noSlash l < l.length
    · rw [if_pos hs, if_pos hs]
      have hnt : ¬ l.all isTail = true := by
        intro h
        have hx : l.all noSlash = true := by
          rw [List.all_eq_true] at h ⊢
          intro x hx
          cases hn : noSlash x
          · have := slash_not_tail hn; rw [h x hx] at this; simp at this
          · rfl
        rw [spanL_all hx] at hs; omega
      rw [if_neg (by
        rintro (h | h)
        · exact hnt (wordL_full (by omega) h)
        · exact hnt (numL_full (by omega) h))]
      simp only []
      rw [numB_iff, numB_iff]
      cases decide (0 < (l.take (spanL noSlash l)).length) <;> cases decide (0 < (l.drop (spanL noSlash l + 1)).length) <;> cases decide (numL (l.take (spanL noSlash l)) = (l.take (spanL noSlash l)).length) <;> simp
    · rw [if_neg hs, if_neg hs]
      rw [wordB_eq l (by omega), numB_iff]
      by_cases h1 : wordL l = l.length ∨ numL l = l.length
      · rw [if_pos h1]; rcases h1 with h1 | h1 <;> simp [h1]; omega
      · rw [if_neg h1]
        have h2 : ¬ wordL l = l.length := fun h => h1 (.inl h)
        have h3 : ¬ numL l = l.length := fun h => h1 (.inr h)
        simp [h2, h3]

end Go.Proofs.Ythdcgplocdehjaa

namespace Go.Proofs.Ythdcgplocdehjaa
open Go.RowKit Go.Proofs.Kit

theorem drop_len_lt {α : Type} (l : List α) (n : Nat) (h : 1 ≤ n) (h0 : 0 < l.length) : (l.drop n).length < l.length := by
  rw [List.length_drop]; omega

theorem span_comment_pos (c : UInt8) (r : List UInt8) (h : ((c.toNat : Int) == 35) = true) : 1 ≤ spanL notNl (c :: r) := by
  have hn : notNl c = true := by simp only [beq_iff_eq] at h; simp [notNl, h]
  rw [spanL_cons_pos r hn]; omega

theorem refL_fuel : ∀ (n f g line : Nat) (l : List UInt8), l.length ≤ n → l.length < f → l.length < g → refL f line l = refL g line l := by
  intro n
  induction n with
  | zero =>
    intro f g line l h hf hg
    have : l = [] := List.eq_nil_of_length_eq_zero (by omega)
    subst this
    obtain ⟨f', rfl⟩ : ∃ f', f = f' + 1 := ⟨f - 1, by omega⟩
    obtain ⟨g', rfl⟩ : ∃ g', g = g' + 1 := ⟨g - 1, by omega⟩
    rfl
  | succ n ih =>
    intro f g line l h hf hg
    obtain ⟨f', rfl⟩ : ∃ f', f = f' + 1 := ⟨f - 1, by omega⟩
    obtain ⟨g', rfl⟩ : ∃ g', g = g' + 1 := ⟨g - 1, by omega⟩
    cases l with
    | nil => rfl
    | cons c r =>
      unfold refL
      have hl : (c :: r).length = r.length + 1 := rfl
      split
      · rename_i h1
        have := drop_len_lt (c :: r) _ (span_comment_pos c r h1) (by simp)
        exact ih _ _ _ _ (by omega) (by omega) (by omega)
      · split
        · exact ih _ _ _ _ (by omega) (by omega) (by omega)
        · cases ho : oneL (c :: r) with
          | none => rfl
          | some x =>
            obtain ⟨k, t, m⟩ := x
            have h1 := oneL_len ho
            have := drop_len_lt (c :: r) m h1.1 (by simp)
            simp only []
            rw [ih f' g' line _ (by omega) (by omega) (by omega)]

def R (line : Nat) (l : List UInt8) : Except Nat (List Tok) := refL (l.length + 1) line l

theorem R_fuel {f line : Nat} {l : List UInt8} (h : l.length < f) : refL f line l = R line l := refL_fuel _ _ _ _ _ (Nat.le_refl _) h (by omega)

theorem R_nil (line : Nat) : R line [] = .ok [(5, [], line)] := rfl
theorem R_comment (line : Nat) (c : UInt8) (r : List UInt8) (h : ((c.toNat : Int) == 35) = true) : R line (c :: r) = R line ((c :: r).drop (spanL notNl (c :: r))) := by
  have := drop_len_lt (c :: r) _ (span_comment_pos c r h) (by simp)
  rw [← R_fuel (f := (c :: r).length) this]
  conv => lhs; unfold R; rw [refL]
  rw [if_pos h]
theorem R_blank (line : Nat) (c : UInt8) (r : List UInt8) (h : ((c.toNat : Int) == 35) = false) (h2 : inL c [32, 9, 10, 13] = true) : R line (c :: r) = R (if (c.toNat : Int) == 10 then line + 1 else line) r := by
  rw [← R_fuel (f := (c :: r).length) (l := r) (by simp)]
  conv => lhs; unfold R; rw [refL]
  rw [h, if_neg (by simp), h2, if_pos rfl]
theorem R_tok (line : Nat) (c : UInt8) (r : List UInt8) (h : ((c.toNat : Int) == 35) = false) (h2 : inL c [32, 9, 10, 13] = false) :
    R line (c :: r) = match oneL (c :: r) with | none => .error line | some (k, t, n) => (R line ((c :: r).drop n)).map fun x => (k, t, line) :: x := by
  conv => lhs; unfold R; rw [refL]
  rw [h, if_neg (by simp), h2, if_neg (by simp)]
  cases ho : oneL (c :: r) with
  | none => rfl
  | some x =>
    obtain ⟨k, t, m⟩ := x
    simp only []
    rw [R_fuel (drop_len_lt (c :: r) m (oneL_len ho).1 (by simp))]

theorem blank_in (c : UInt8) : inL c [32, 9, 10, 13] = isBlank c := by
  unfold inL isBlank
  simp only [List.any_cons, List.any_nil, Bool.or_false]
  rw [show ((32 : UInt8).toNat : Int) = 32 from rfl, show ((9 : UInt8).toNat : Int) = 9 from rfl, show ((10 : UInt8).toNat : Int) = 10 from rfl, show ((13 : UInt8).toNat : Int) = 13 from rfl]
  rw [Bool.eq_iff_iff]; simp; omega

theorem count_ten (c : UInt8) (l : List UInt8) : (c :: l).count 10 = l.count 10 + if (c.toNat : Int) == 10 then 1 else 0 := by
  rw [List.count_cons]
  congr 1
  by_cases h : c = 10
  · subst h; rfl
  · have h1 : (c == 10) = false := by simpa using h
    have h2 : ((c.toNat : Int) == 10) = false := by rw [beq_eq_false_iff_ne]; intro h'; exact h (UInt8.toNat_inj.1 (by simp; omega))
    rw [h1, h2]

/-- The reference passes over blanks and comments. -/
theorem R_skip : ∀ (l : List UInt8),
    (∀ line, R line l = R (line + (l.take (skipF false l)).count 10) (l.drop (skipF false l))) ∧
    (∀ line, R line (l.drop (spanL notNl l)) = R (line + (l.take (skipF true l)).count 10) (l.drop (skipF true l))) := by
  intro l
  induction l with
  | nil => exact ⟨fun _ => rfl, fun _ => rfl⟩
  | cons c r ih =>
    have blank : isBlank c = true → ∀ line, R line (c :: r) = R (line + ((c :: r).take (1 + skipF false r)).count 10) ((c :: r).drop (1 + skipF false r)) := by
      intro hb line
      have h35 : ((c.toNat : Int) == 35) = false := by
        rw [beq_eq_false_iff_ne]; intro h; simp [isBlank, h] at hb
      rw [R_blank line c r h35 (by rw [blank_in]; exact hb), ih.1, show 1 + skipF false r = skipF false r + 1 by omega, List.take_succ_cons, List.drop_succ_cons, count_ten]
      congr 1
      split <;> omega
    refine ⟨fun line => ?_, fun line => ?_⟩
    · unfold skipF
      cases hb : isBlank c
      · simp only [Bool.false_eq_true, if_false]
        cases h35 : ((c.toNat : Int) == 35)
        · simp
        · simp only [if_true]
          have hn : notNl c = true := by simp only [beq_iff_eq] at h35; simp [notNl, h35]
          have h10 : ((c.toNat : Int) == 10) = false := by simp only [beq_iff_eq] at h35; simp [h35]
          rw [R_comment line c r h35, spanL_cons_pos r hn, List.drop_succ_cons, ih.2, show 1 + skipF true r = skipF true r + 1 by omega, List.take_succ_cons, List.drop_succ_cons, count_ten, h10]
          simp
      · simp only [if_true]
        exact blank hb line
    · unfold skipF
      cases h10 : ((c.toNat : Int) == 10)
      · simp only [Bool.false_eq_true, if_false]
        have hn : notNl c = true := by simp [notNl, bne, h10]
        rw [spanL_cons_pos r hn, List.drop_succ_cons, ih.2, show 1 + skipF true r = skipF true r + 1 by omega, List.take_succ_cons, List.drop_succ_cons, count_ten, h10]
        simp
      · simp only [if_true]
        have hn : notNl c = false := by simp [notNl, bne, h10]
        rw [spanL_cons_neg r hn, List.drop_zero]
        exact blank (by simp [isBlank, h10]) line

theorem skip_head : ∀ (l : List UInt8) (c : UInt8) (r : List UInt8),
    (l.drop (skipF false l) = c :: r → isBlank c = false ∧ ((c.toNat : Int) == 35) = false) ∧ (l.drop (skipF true l) = c :: r → isBlank c = false ∧ ((c.toNat : Int) == 35) = false) := by
  intro l c r
  induction l with
  | nil => exact ⟨fun h => by simp [skipF] at h, fun h => by simp [skipF] at h⟩
  | cons x l ih =>
    refine ⟨fun h => ?_, fun h => ?_⟩
    · unfold skipF at h
      cases hb : isBlank x
      · simp only [hb, Bool.false_eq_true, if_false] at h
        cases h35 : ((x.toNat : Int) == 35)
        · simp only [h35, Bool.false_eq_true, if_false, List.drop_zero, List.cons.injEq] at h
          rw [← h.1]; exact ⟨hb, h35⟩
        · simp only [h35, if_true] at h
          rw [show 1 + skipF true l = skipF true l + 1 by omega, List.drop_succ_cons] at h
          exact ih.2 h
      · simp only [hb, if_true] at h
        rw [show 1 + skipF false l = skipF false l + 1 by omega, List.drop_succ_cons] at h
        exact ih.1 h
    · unfold skipF at h
      split at h
      · rw [show 1 + skipF false l = skipF false l + 1 by omega, List.drop_succ_cons] at h
        exact ih.1 h
      · rw [show 1 + skipF true l = skipF true l + 1 by omega, List.drop_succ_cons] at h
        exact ih.2 h

/-- The program's tokens are the reference's. -/
theorem lex_ref : ∀ (n f line : Nat) (l : List UInt8), l.length ≤ n → l.length < f → lexL f line l = R line l := by
  intro n
  induction n with
  | zero =>
    intro f line l h hf
    have : l = [] := List.eq_nil_of_length_eq_zero (by omega)
    subst this
    obtain ⟨f', rfl⟩ : ∃ f', f = f' + 1 := ⟨f - 1, by omega⟩
    rfl
  | succ n ih =>
    intro f line l h hf
    obtain ⟨f', rfl⟩ : ∃ f', f = f' + 1 := ⟨f - 1, by omega⟩
    rw [(R_skip l).1 line]
    unfold lexL
    have hd := List.length_drop (i := skipF false l) (l := l)
    cases hx : l.drop (skipF false l) with
    | nil => rw [R_nil]; rfl
    | cons c r =>
      have hc := (skip_head l c r).1 hx
      rw [R_tok _ c r hc.2 (by rw [blank_in]; exact hc.1), next_one, if_neg (by simp)]
      cases ho : oneL (c :: r) with
      | none => rfl
      | some x =>
        obtain ⟨k, t, m⟩ := x
        have h1 := drop_len_lt (c :: r) m (oneL_len ho).1 (by simp)
        rw [hx] at hd
        simp only []
        rw [ih f' _ _ (by omega) (by omega)]

theorem lex_all (l : List UInt8) : lexL (l.length + 1) 1 l = refL (l.length + 1) 1 l := lex_ref _ _ _ _ (Nat.le_refl _) (by omega)

theorem eqT_self (lines : Bool) : ∀ A : List Tok, eqT lines A A = true
  | [] => rfl
  | a :: r => by unfold eqT; rw [eqT_self lines r]; simp [tokEq]

end Go.Proofs.Ythdcgplocdehjaa

namespace Go.Proofs.Ythdcgplocdehjaa
open Go.RowKit Go.Proofs.Kit

theorem tw_app_lt {p : UInt8 → Bool} (X s : List UInt8) (h : spanL p X < X.length ∨ (∀ d t, s = d :: t → p d = false)) : (X ++ s).takeWhile p = X.takeWhile p := by
  induction X with
  | nil =>
    rcases h with h | h
    · simp [spanL] at h
    · cases s with
      | nil => rfl
      | cons d t => simp [List.takeWhile, h d t rfl]
  | cons x X ih =>
    cases hp : p x
    · simp [List.takeWhile, hp]
    · rw [List.cons_append]
      simp only [List.takeWhile, hp]
      rw [ih]
      rcases h with h | h
      · left; rw [spanL_cons_pos X hp] at h; simp at h; exact h
      · right; exact h

theorem strL_app : ∀ (m : Nat) (l s t : List UInt8) (n : Nat), l.length ≤ m → strL l = some (t, n) → strL (l ++ s) = some (t, n) := by
  intro m
  induction m with
  | zero => intro l s t n hl h; cases l with
    | nil => simp [strL] at h
    | cons a r => simp at hl
  | succ m ih =>
    intro l s t n hl h
    cases l with
    | nil => simp [strL] at h
    | cons c r =>
      rw [List.cons_append]
      unfold strL at h ⊢
      split at h
      · rename_i h1; rw [if_pos h1]; exact h
      · rename_i h1
        rw [if_neg h1]
        split at h
        · rename_i h2
          rw [if_pos h2]
          cases r with
          | nil => simp at h
          | cons d r' =>
            simp only [List.cons_append] at h ⊢
            split at h
            · rename_i h3
              rw [if_pos h3]
              cases hs : strL r' with
              | none => rw [hs] at h; simp at h
              | some x => rw [ih r' s x.1 x.2 (by simp at hl; omega) hs]; rw [hs] at h; exact h
            · simp at h
        · rename_i h2
          rw [if_neg h2]
          split at h
          · rename_i h3
            rw [if_pos h3]
            cases hs : strL r with
            | none => rw [hs] at h; simp at h
            | some x => rw [ih r s x.1 x.2 (by simp at hl; omega) hs]; rw [hs] at h; exact h
          · simp at h

theorem oneL_app (X s : List UInt8) (hX : X ≠ []) (y : Int × List UInt8 × Nat) (h : oneL X = some y) (hs : spanL isTail X < X.length ∨ (∀ d t, s = d :: t → isTail d = false)) : oneL (X ++ s) = some y := by
  have e1 := tw_app_lt X s hs
  have e2 : spanL isTail (X ++ s) = spanL isTail X := by unfold spanL; rw [e1]
  cases X with
  | nil => exact absurd rfl hX
  | cons c r =>
    unfold oneL at h ⊢
    rw [take_spanL] at h ⊢
    rw [e2, e1]
    split at h
    · rename_i h1; rw [if_pos h1]; exact h
    · rename_i h1
      rw [if_neg h1]
      split at h
      · rename_i h2; rw [if_pos h2]; exact h
      · rename_i h2
        rw [if_neg h2]
        simp only [List.cons_append] at h ⊢
        split at h
        · rename_i h3; rw [if_pos h3]; exact h
        · rename_i h3
          rw [if_neg h3]
          split at h
          · rename_i h4
            rw [if_pos h4]
            cases hq : strL r with
            | none => rw [hq] at h; simp at h
            | some x => rw [strL_app _ r s x.1 x.2 (Nat.le_refl _) hq]; rw [hq] at h; exact h
          · simp at h

/-- X is at a good end ahead of s: it ends in a newline, or bears no '#' and s begins with a blank. -/
def Ends (X s : List UInt8) : Prop := (∃ Y, X = Y ++ [10]) ∨ ((∀ c ∈ X, ((c.toNat : Int) == 35) = false) ∧ ∀ d t, s = d :: t → isBlank d = true)

theorem Ends.tail {c : UInt8} {X s : List UInt8} (h : Ends (c :: X) s) : X = [] ∨ Ends X s := by
  rcases h with ⟨Y, hY⟩ | h
  · cases Y with
    | nil => simp at hY; left; exact hY.2
    | cons a Y => simp at hY; right; left; exact ⟨Y, hY.2⟩
  · right; right; exact ⟨fun x hx => h.1 x (List.mem_cons_of_mem _ hx), h.2⟩
theorem Ends.drop {X s : List UInt8} (h : Ends X s) (n : Nat) : X.drop n = [] ∨ Ends (X.drop n) s := by
  induction n generalizing X with
  | zero => right; exact h
  | succ n ih =>
    cases X with
    | nil => left; simp
    | cons c X =>
      rw [List.drop_succ_cons]
      rcases h.tail with h | h
      · left; rw [h]; simp
      · exact ih h

theorem blank_not_tail {d : UInt8} (h : isBlank d = true) : isTail d = false := by
  unfold isBlank at h; simp at h; unfold isTail isLetter isDigit; simp; omega

theorem span_lt_of_mem {p : UInt8 → Bool} : ∀ (X : List UInt8) (c : UInt8), c ∈ X → p c = false → spanL p X < X.length := by
  intro X c hc hp
  have h1 := spanL_le p X
  rcases Nat.lt_or_ge (spanL p X) X.length with h | h
  · exact h
  · exfalso
    have h3 := take_spanL p X
    rw [List.take_of_length_le (by omega)] at h3
    have := all_takeWhile p X
    rw [← h3] at this
    have := List.all_eq_true.1 this c hc
    rw [hp] at this; simp at this

theorem R_app : ∀ (n : Nat) (X s : List UInt8) (line : Nat) (A : List Tok), X.length ≤ n → (X = [] ∨ Ends X s) → R line X = .ok A →
    ∃ A' line', A = A' ++ [(5, [], line')] ∧ R line (X ++ s) = (R line' s).map (A' ++ ·) := by
  intro n
  induction n with
  | zero =>
    intro X s line A hl _ h
    have : X = [] := List.eq_nil_of_length_eq_zero (by omega)
    subst this
    rw [R_nil] at h
    simp at h
    refine ⟨[], line, h.symm, ?_⟩
    simp; cases R line s <;> rfl
  | succ n ih =>
    intro X s line A hl hE h
    cases X with
    | nil =>
      rw [R_nil] at h
      simp at h
      refine ⟨[], line, h.symm, ?_⟩
      simp; cases R line s <;> rfl
    | cons c r =>
      have hE := hE.resolve_left (by simp)
      have hl' : r.length ≤ n := by simp at hl; exact hl
      cases h35 : ((c.toNat : Int) == 35)
      · cases hb : inL c [32, 9, 10, 13]
        · rw [R_tok line c r h35 hb] at h
          cases ho : oneL (c :: r) with
          | none => rw [ho] at h; simp at h
          | some y =>
            obtain ⟨k, t, m⟩ := y
            rw [ho] at h
            simp only [] at h
            have hm := oneL_len ho
            cases hr : R line ((c :: r).drop m) with
            | error e => rw [hr] at h; simp [Except.map] at h
            | ok B =>
              rw [hr] at h; simp only [Except.map, Except.ok.injEq] at h
              have hdl := drop_len_lt (c :: r) m hm.1 (by simp)
              obtain ⟨B', line', hB, hR⟩ := ih _ s line B (by simp only [List.length_cons] at hdl; omega) (hE.drop m) hr
              refine ⟨(k, t, line) :: B', line', by rw [← h, hB]; rfl, ?_⟩
              have happ := oneL_app (c :: r) s (by simp) _ ho (by
                rcases hE with ⟨Y, hY⟩ | hE
                · left; exact span_lt_of_mem _ 10 (by rw [hY]; simp) (by decide)
                · right; exact fun d t hd => blank_not_tail (hE.2 d t hd))
              rw [List.cons_append, R_tok line c (r ++ s) h35 hb, ← List.cons_append, happ]
              simp only []
              rw [List.drop_append_of_le_length hm.2, hR]
              cases R line' s <;> rfl
        · rw [R_blank line c r h35 hb] at h
          obtain ⟨A', line', hA, hR⟩ := ih r s _ A hl' hE.tail h
          refine ⟨A', line', hA, ?_⟩
          rw [List.cons_append, R_blank line c _ h35 hb, hR]
      · rcases hE with ⟨Y, hY⟩ | hE
        · have hlt : spanL notNl (c :: r) < (c :: r).length := span_lt_of_mem _ 10 (by rw [hY]; simp) (by decide)
          have h1 := span_comment_pos c r h35
          rw [R_comment line c r h35] at h
          have hdl := drop_len_lt (c :: r) _ h1 (by simp)
          obtain ⟨A', line', hA, hR⟩ := ih _ s line A (by simp only [List.length_cons] at hdl; omega) (Ends.drop (.inl ⟨Y, hY⟩) _) h
          refine ⟨A', line', hA, ?_⟩
          have e2 : spanL notNl (c :: r ++ s) = spanL notNl (c :: r) := by
            unfold spanL; rw [tw_app_lt (c :: r) s (.inl hlt)]
          rw [List.cons_append, R_comment line c _ h35, ← List.cons_append, e2, List.drop_append_of_le_length (by omega), hR]
        · have := hE.1 c (by simp); rw [h35] at this; simp at this

/-! ### Place -/
def badByte (b : UInt8) : Prop := b = 65 ∨ b = 0 ∨ b = 95 ∨ 128 ≤ b.toNat

theorem R_newlines (line m : Nat) (s : List UInt8) : R line (List.replicate m 10 ++ s) = R (line + m) s := by
  induction m generalizing line with
  | zero => simp
  | succ m ih =>
    rw [List.replicate_succ, List.cons_append, R_blank line 10 _ (by decide) (by decide), if_pos (by decide), ih]
    congr 1; omega

theorem R_bad (line : Nat) (b : UInt8) (hb : badByte b) : R line [32, b, 32, 120] = .error line := by
  rw [R_blank line 32 _ (by decide) (by decide), if_neg (by decide)]
  have ht : isTail b = false ∧ ((b.toNat : Int) == 35) = false ∧ inL b [32, 9, 10, 13] = false ∧ inL b [123, 125, 59, 44, 47] = false ∧ ((b.toNat : Int) == 34) = false := by
    rcases hb with rfl | rfl | rfl | hb
    · decide
    · decide
    · decide
    · refine ⟨?_, ?_, ?_, ?_, ?_⟩
      · unfold isTail isLetter isDigit; simp; omega
      · rw [beq_eq_false_iff_ne]; omega
      · unfold inL; simp; omega
      · unfold inL; simp; omega
      · rw [beq_eq_false_iff_ne]; omega
  obtain ⟨h1, h2, h3, h4, h5⟩ := ht
  rw [R_tok line b _ h2 h3]
  have : oneL [b, 32, 120] = none := by
    unfold oneL
    rw [spanL_cons_neg _ h1]
    simp only [List.take_zero]
    rw [show wordB [] = false from rfl, show numB [] = false from rfl, h4, h5]
    simp
  rw [this]

theorem place_law (X : List UInt8) (m : Nat) (b : UInt8) (A : List Tok) (hX : ∀ c ∈ X, ((c.toNat : Int) == 35) = false) (hb : badByte b) (h : R 1 X = .ok A) :
    ∃ A' line', A = A' ++ [(5, [], line')] ∧ R 1 (X ++ (List.replicate m 10 ++ [32, b, 32, 120])) = .error (line' + m) := by
  obtain ⟨A', line', hA, hR⟩ := R_app _ X (List.replicate m 10 ++ [32, b, 32, 120]) 1 A (Nat.le_refl _) (.inr (.inr ⟨hX, fun d t hd => by
    cases m with
    | zero => simp at hd; rw [← hd.1]; decide
    | succ m => rw [List.replicate_succ] at hd; simp at hd; rw [← hd.1]; decide⟩)) h
  refine ⟨A', line', hA, ?_⟩
  rw [hR, R_newlines, R_bad _ _ hb]
  rfl

/-! ### Blanks -/
theorem R_gap (line : Nat) (g s : List UInt8) (hg : ∀ c ∈ g, isBlank c = true) : ∃ line', R line (g ++ s) = R line' s := by
  induction g generalizing line with
  | nil => exact ⟨line, rfl⟩
  | cons c g ih =>
    have hc := hg c (by simp)
    have h35 : ((c.toNat : Int) == 35) = false := by
      rw [beq_eq_false_iff_ne]; intro h; simp [isBlank, h] at hc
    obtain ⟨line', h⟩ := ih (if (c.toNat : Int) == 10 then line + 1 else line) (fun c hc => hg c (by simp [hc]))
    exact ⟨line', by rw [List.cons_append, R_blank line c _ h35 (by rw [blank_in]; exact hc), h]⟩

theorem R_note (line : Nat) (note s : List UInt8) (hn : ∀ c ∈ note, notNl c = true) : R line (35 :: note ++ 10 :: s) = R (line + 1) s := by
  rw [List.cons_append, R_comment line 35 _ (by decide)]
  have : (35 :: (note ++ 10 :: s)).drop (spanL notNl (35 :: (note ++ 10 :: s))) = 10 :: s := by
    rw [drop_spanL, List.dropWhile_cons_of_pos (by decide)]
    induction note with
    | nil => rw [List.nil_append, List.dropWhile_cons_of_neg (by decide)]
    | cons c note ih =>
      rw [List.cons_append, List.dropWhile_cons_of_pos (hn c (by simp))]
      exact ih (fun c hc => hn c (by simp [hc]))
  rw [this, R_blank line 10 _ (by decide) (by decide), if_pos (by decide)]

theorem eqT_false_cons (k : Int) (t : List UInt8) (i j : Nat) (A B : List Tok) : eqT false ((k, t, i) :: A) ((k, t, j) :: B) = eqT false A B := by
  conv => lhs; unfold eqT
  simp [tokEq]

theorem R_lines : ∀ (n : Nat) (l : List UInt8) (i j : Nat) (A : List Tok), l.length ≤ n → R i l = .ok A → ∃ B, R j l = .ok B ∧ eqT false B A = true ∧ B.length = A.length := by
  intro n
  induction n with
  | zero =>
    intro l i j A hl h
    have : l = [] := List.eq_nil_of_length_eq_zero (by omega)
    subst this
    rw [R_nil] at h
    simp at h
    exact ⟨[(5, [], j)], rfl, by rw [← h, eqT_false_cons]; rfl, by rw [← h]; rfl⟩
  | succ n ih =>
    intro l i j A hl h
    cases l with
    | nil =>
      rw [R_nil] at h
      simp at h
      exact ⟨[(5, [], j)], rfl, by rw [← h, eqT_false_cons]; rfl, by rw [← h]; rfl⟩
    | cons c r =>
      have hl' : r.length ≤ n := by simp at hl; exact hl
      cases h35 : ((c.toNat : Int) == 35)
      · cases hb : inL c [32, 9, 10, 13]
        · rw [R_tok _ c r h35 hb] at h ⊢
          cases ho : oneL (c :: r) with
          | none => rw [ho] at h; simp at h
          | some y =>
            obtain ⟨k, t, m⟩ := y
            rw [ho] at h
            simp only [] at h ⊢
            cases hr : R i ((c :: r).drop m) with
            | error e => rw [hr] at h; simp [Except.map] at h
            | ok C =>
              rw [hr] at h; simp only [Except.map, Except.ok.injEq] at h
              have hdl := drop_len_lt (c :: r) m (oneL_len ho).1 (by simp)
              obtain ⟨B, hB, hE, hL⟩ := ih _ i j C (by simp only [List.length_cons] at hdl; omega) hr
              exact ⟨(k, t, j) :: B, by rw [hB]; rfl, by rw [← h, eqT_false_cons]; exact hE, by rw [← h, List.length_cons, List.length_cons, hL]⟩
        · rw [R_blank _ c r h35 hb] at h ⊢
          exact ih r _ _ A hl' h
      · rw [R_comment _ c r h35] at h ⊢
        have hdl := drop_len_lt (c :: r) _ (span_comment_pos c r h35) (by simp)
        exact ih _ _ _ A (by simp only [List.length_cons] at hdl; omega) h

theorem eqT_app (lines : Bool) : ∀ (C A B : List Tok), eqT lines (C ++ A) (C ++ B) = eqT lines A B
  | [], _, _ => rfl
  | c :: C, A, B => by
    rw [List.cons_append, List.cons_append]
    show (tokEq lines c c && eqT lines (C ++ A) (C ++ B)) = eqT lines A B
    rw [eqT_app lines C A B, show tokEq lines c c = true by simp [tokEq]]
    rfl

theorem blanks_law (a b note g1 : List UInt8) (A B : List Tok) (hA : R 1 (a ++ [10]) = .ok A) (hB : R 1 b = .ok B) (hg : ∀ c ∈ g1, isBlank c = true) (hn : ∀ c ∈ note, notNl c = true) :
    ∃ A' line' C, A = A' ++ [(5, [], line')] ∧ R 1 ((a ++ [10]) ++ (g1 ++ (35 :: note ++ 10 :: (g1 ++ b)))) = .ok (A' ++ C) ∧ eqT false (A' ++ C) (A' ++ B) = true ∧ C.length = B.length := by
  obtain ⟨A', line', hA', hR⟩ := R_app _ (a ++ [10]) (g1 ++ (35 :: note ++ 10 :: (g1 ++ b))) 1 A (Nat.le_refl _) (.inr (.inl ⟨a, rfl⟩)) hA
  obtain ⟨l1, h1⟩ := R_gap line' g1 (35 :: note ++ 10 :: (g1 ++ b)) hg
  obtain ⟨l2, h2⟩ := R_gap (l1 + 1) g1 b hg
  obtain ⟨C, hC, hE, hL⟩ := R_lines _ b 1 l2 B (Nat.le_refl _) hB
  refine ⟨A', line', C, hA', ?_, by rw [eqT_app]; exact hE, hL⟩
  rw [hR, h1, R_note _ _ _ hn, h2, hC]
  rfl

end Go.Proofs.Ythdcgplocdehjaa
