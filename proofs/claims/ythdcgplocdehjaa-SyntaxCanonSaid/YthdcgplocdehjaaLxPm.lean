import Derived.Test.YthdcgplocdehjaaLxPl
import Derived.Test.YthdcgplocdehjaaLxRf
namespace Go.Proofs.Ythdcgplocdehjaa
open Go.RowKit Go.Proofs.Kit

theorem drop_len_lt {α : Type} (l : List α) (n : Nat) (h : 1 ≤ n) (h0 : 0 < l.length) : (l.drop n).length < l.length := by
  rw [List.length_drop]; omega

theorem span_comment_pos (c : UInt8) (r : List UInt8) (h : ((c.toNat : Int) == 35) = true) : 1 ≤ spanL notNl (c :: r) := by
  have hn : notNl c = true := by simp only [beq_iff_eq] at h; simp [notNl, h]
  rw [spanL_cons_pos r hn]; omega

theorem refL_fuel : ∀ (n f g line : Nat) (l : List UInt8), l.length ≤ n → l.length < f → l.length < g → refL f line l = refL g line l := by
  intro n
  induction n with
  | zero =>
    intro f g line l h hf hg
    have : l = [] := List.eq_nil_of_length_eq_zero (by omega)
    subst this
    obtain ⟨f', rfl⟩ : ∃ f', f = f' + 1 := ⟨f - 1, by omega⟩
    obtain ⟨g', rfl⟩ : ∃ g', g = g' + 1 := ⟨g - 1, by omega⟩
    rfl
  | succ n ih =>
    intro f g line l h hf hg
    obtain ⟨f', rfl⟩ : ∃ f', f = f' + 1 := ⟨f - 1, by omega⟩
    obtain ⟨g', rfl⟩ : ∃ g', g = g' + 1 := ⟨g - 1, by omega⟩
    cases l with
    | nil => rfl
    | cons c r =>
      unfold refL
      have hl : (c :: r).length = r.length + 1 := rfl
      split
      · rename_i h1
        have := drop_len_lt (c :: r) _ (span_comment_pos c r h1) (by simp)
        exact ih _ _ _ _ (by omega) (by omega) (by omega)
      · split
        · exact ih _ _ _ _ (by omega) (by omega) (by omega)
        · cases ho : oneL (c :: r) with
          | none => rfl
          | some x =>
            obtain ⟨k, t, m⟩ := x
            have h1 := oneL_len ho
            have := drop_len_lt (c :: r) m h1.1 (by simp)
            simp only []
            rw [ih f' g' line _ (by omega) (by omega) (by omega)]

def R (line : Nat) (l : List UInt8) : Except Nat (List Tok) := refL (l.length + 1) line l

theorem R_fuel {f line : Nat} {l : List UInt8} (h : l.length < f) : refL f line l = R line l := refL_fuel _ _ _ _ _ (Nat.le_refl _) h (by omega)

theorem R_nil (line : Nat) : R line [] = .ok [(5, [], line)] := rfl
theorem R_comment (line : Nat) (c : UInt8) (r : List UInt8) (h : ((c.toNat : Int) == 35) = true) : R line (c :: r) = R line ((c :: r).drop (spanL notNl (c :: r))) := by
  have := drop_len_lt (c :: r) _ (span_comment_pos c r h) (by simp)
  rw [← R_fuel (f := (c :: r).length) this]
  conv => lhs; unfold R; rw [refL]
  rw [if_pos h]
theorem R_blank (line : Nat) (c : UInt8) (r : List UInt8) (h : ((c.toNat : Int) == 35) = false) (h2 : inL c [32, 9, 10, 13] = true) : R line (c :: r) = R (if (c.toNat : Int) == 10 then line + 1 else line) r := by
  rw [← R_fuel (f := (c :: r).length) (l := r) (by simp)]
  conv => lhs; unfold R; rw [refL]
  rw [h, if_neg (by simp), h2, if_pos rfl]
theorem R_tok (line : Nat) (c : UInt8) (r : List UInt8) (h : ((c.toNat : Int) == 35) = false) (h2 : inL c [32, 9, 10, 13] = false) :
    R line (c :: r) = match oneL (c :: r) with | none => .error line | some (k, t, n) => (R line ((c :: r).drop n)).map fun x => (k, t, line) :: x := by
  conv => lhs; unfold R; rw [refL]
  rw [h, if_neg (by simp), h2, if_neg (by simp)]
  cases ho : oneL (c :: r) with
  | none => rfl
  | some x =>
    obtain ⟨k, t, m⟩ := x
    simp only []
    rw [R_fuel (drop_len_lt (c :: r) m (oneL_len ho).1 (by simp))]

theorem blank_in (c : UInt8) : inL c [32, 9, 10, 13] = isBlank c := by
  unfold inL isBlank
  simp only [List.any_cons, List.any_nil, Bool.or_false]
  rw [show ((32 : UInt8).toNat : Int) = 32 from rfl, show ((9 : UInt8).toNat : Int) = 9 from rfl, show ((10 : UInt8).toNat : Int) = 10 from rfl, show ((13 : UInt8).toNat : Int) = 13 from rfl]
  rw [Bool.eq_iff_iff]; simp; omega

theorem count_ten (c : UInt8) (l : List UInt8) : (c :: l).count 10 = l.count 10 + if (c.toNat : Int) == 10 then 1 else 0 := by
  rw [List.count_cons]
  congr 1
  by_cases h : c = 10
  · subst h; rfl
  · have h1 : (c == 10) = false := by simpa using h
    have h2 : ((c.toNat : Int) == 10) = false := by rw [beq_eq_false_iff_ne]; intro h'; exact h (UInt8.toNat_inj.1 (by simp; omega))
    rw [h1, h2]

/-- The reference passes over blanks and comments. -/
theorem R_skip : ∀ (l : List UInt8),
    (∀ line, R line l = R (line + (l.take (skipF false l)).count 10) (l.drop (skipF false l))) ∧
    (∀ line, R line (l.drop (spanL notNl l)) = R (line + (l.take (skipF true l)).count 10) (l.drop (skipF true l))) := by
  intro l
  induction l with
  | nil => exact ⟨fun _ => rfl, fun _ => rfl⟩
  | cons c r ih =>
    have blank : isBlank c = true → ∀ line, R line (c :: r) = R (line + ((c :: r).take (1 + skipF false r)).count 10) ((c :: r).drop (1 + skipF false r)) := by
      intro hb line
      have h35 : ((c.toNat : Int) == 35) = false := by
        rw [beq_eq_false_iff_ne]; intro h; simp [isBlank, h] at hb
      rw [R_blank line c r h35 (by rw [blank_in]; exact hb), ih.1, show 1 + skipF false r = skipF false r + 1 by omega, List.take_succ_cons, List.drop_succ_cons, count_ten]
      congr 1
      split <;> omega
    refine ⟨fun line => ?_, fun line => ?_⟩
    · unfold skipF
      cases hb : isBlank c
      · simp only [Bool.false_eq_true, if_false]
        cases h35 : ((c.toNat : Int) == 35)
        · simp
        · simp only [if_true]
          have hn : notNl c = true := by simp only [beq_iff_eq] at h35; simp [notNl, h35]
          have h10 : ((c.toNat : Int) == 10) = false := by simp only [beq_iff_eq] at h35; simp [h35]
          rw [R_comment line c r h35, spanL_cons_pos r hn, List.drop_succ_cons, ih.2, show 1 + skipF true r = skipF true r + 1 by omega, List.take_succ_cons, List.drop_succ_cons, count_ten, h10]
          simp
      · simp only [if_true]
        exact blank hb line
    · unfold skipF
      cases h10 : ((c.toNat : Int) == 10)
      · simp only [Bool.false_eq_true, if_false]
        have hn : notNl c = true := by simp [notNl, bne, h10]
        rw [spanL_cons_pos r hn, List.drop_succ_cons, ih.2, show 1 + skipF true r = skipF true r + 1 by omega, List.take_succ_cons, List.drop_succ_cons, count_ten, h10]
        simp
      · simp only [if_true]
        have hn : notNl c = false := by simp [notNl, bne, h10]
        rw [spanL_cons_neg r hn, List.drop_zero]
        exact blank (by simp [isBlank, h10]) line

theorem skip_head : ∀ (l : List UInt8) (c : UInt8) (r : List UInt8),
    (l.drop (skipF false l) = c :: r → isBlank c = false ∧ ((c.toNat : Int) == 35) = false) ∧ (l.drop (skipF true l) = c :: r → isBlank c = false ∧ ((c.toNat : Int) == 35) = false) := by
  intro l c r
  induction l with
  | nil => exact ⟨fun h => by simp [skipF] at h, fun h => by simp [skipF] at h⟩
  | cons x l ih =>
    refine ⟨fun h => ?_, fun h => ?_⟩
    · unfold skipF at h
      cases hb : isBlank x
      · simp only [hb, Bool.false_eq_true, if_false] at h
        cases h35 : ((x.toNat : Int) == 35)
        · simp only [h35, Bool.false_eq_true, if_false, List.drop_zero, List.cons.injEq] at h
          rw [← h.1]; exact ⟨hb, h35⟩
        · simp only [h35, if_true] at h
          rw [show 1 + skipF true l = skipF true l + 1 by omega, List.drop_succ_cons] at h
          exact ih.2 h
      · simp only [hb, if_true] at h
        rw [show 1 + skipF false l = skipF false l + 1 by omega, List.drop_succ_cons] at h
        exact ih.1 h
    · unfold skipF at h
      split at h
      · rw [show 1 + skipF false l = skipF false l + 1 by omega, List.drop_succ_cons] at h
        exact ih.1 h
      · rw [show 1 + skipF true l = skipF true l + 1 by omega, List.drop_succ_cons] at h
        exact ih.2 h

/-- The program's tokens are the reference's. -/
theorem lex_ref : ∀ (n f line : Nat) (l : List UInt8), l.length ≤ n → l.length < f → lexL f line l = R line l := by
  intro n
  induction n with
  | zero =>
    intro f line l h hf
    have : l = [] := List.eq_nil_of_length_eq_zero (by omega)
    subst this
    obtain ⟨f', rfl⟩ : ∃ f', f = f' + 1 := ⟨f - 1, by omega⟩
    rfl
  | succ n ih =>
    intro f line l h hf
    obtain ⟨f', rfl⟩ : ∃ f', f = f' + 1 := ⟨f - 1, by omega⟩
    rw [(R_skip l).1 line]
    unfold lexL
    have hd := List.length_drop (i := skipF false l) (l := l)
    cases hx : l.drop (skipF false l) with
    | nil => rw [R_nil]; rfl
    | cons c r =>
      have hc := (skip_head l c r).1 hx
      rw [R_tok _ c r hc.2 (by rw [blank_in]; exact hc.1), next_one, if_neg (by simp)]
      cases ho : oneL (c :: r) with
      | none => rfl
      | some x =>
        obtain ⟨k, t, m⟩ := x
        have h1 := drop_len_lt (c :: r) m (oneL_len ho).1 (by simp)
        rw [hx] at hd
        simp only []
        rw [ih f' _ _ (by omega) (by omega)]

theorem lex_all (l : List UInt8) : lexL (l.length + 1) 1 l = refL (l.length + 1) 1 l := lex_ref _ _ _ _ (Nat.le_refl _) (by omega)

theorem eqT_self (lines : Bool) : ∀ A : List Tok, eqT lines A A = true
  | [] => rfl
  | a :: r => by unfold eqT; rw [eqT_self lines r]; simp [tokEq]

end Go.Proofs.Ythdcgplocdehjaa
