import Derived.Test.YthdcgplocdehjaaLxPm
namespace Go.Proofs.Ythdcgplocdehjaa
open Go.RowKit Go.Proofs.Kit

theorem tw_app_lt {p : UInt8 → Bool} (X s : List UInt8) (h : spanL p X < X.length ∨ (∀ d t, s = d :: t → p d = false)) : (X ++ s).takeWhile p = X.takeWhile p := by
  induction X with
  | nil =>
    rcases h with h | h
    · simp [spanL] at h
    · cases s with
      | nil => rfl
      | cons d t => simp [List.takeWhile, h d t rfl]
  | cons x X ih =>
    cases hp : p x
    · simp [List.takeWhile, hp]
    · rw [List.cons_append]
      simp only [List.takeWhile, hp]
      rw [ih]
      rcases h with h | h
      · left; rw [spanL_cons_pos X hp] at h; simp at h; exact h
      · right; exact h

theorem strL_app : ∀ (m : Nat) (l s t : List UInt8) (n : Nat), l.length ≤ m → strL l = some (t, n) → strL (l ++ s) = some (t, n) := by
  intro m
  induction m with
  | zero => intro l s t n hl h; cases l with
    | nil => simp [strL] at h
    | cons a r => simp at hl
  | succ m ih =>
    intro l s t n hl h
    cases l with
    | nil => simp [strL] at h
    | cons c r =>
      rw [List.cons_append]
      unfold strL at h ⊢
      split at h
      · rename_i h1; rw [if_pos h1]; exact h
      · rename_i h1
        rw [if_neg h1]
        split at h
        · rename_i h2
          rw [if_pos h2]
          cases r with
          | nil => simp at h
          | cons d r' =>
            simp only [List.cons_append] at h ⊢
            split at h
            · rename_i h3
              rw [if_pos h3]
              cases hs : strL r' with
              | none => rw [hs] at h; simp at h
              | some x => rw [ih r' s x.1 x.2 (by simp at hl; omega) hs]; rw [hs] at h; exact h
            · simp at h
        · rename_i h2
          rw [if_neg h2]
          split at h
          · rename_i h3
            rw [if_pos h3]
            cases hs : strL r with
            | none => rw [hs] at h; simp at h
            | some x => rw [ih r s x.1 x.2 (by simp at hl; omega) hs]; rw [hs] at h; exact h
          · simp at h

theorem oneL_app (X s : List UInt8) (hX : X ≠ []) (y : Int × List UInt8 × Nat) (h : oneL X = some y) (hs : spanL isTail X < X.length ∨ (∀ d t, s = d :: t → isTail d = false)) : oneL (X ++ s) = some y := by
  have e1 := tw_app_lt X s hs
  have e2 : spanL isTail (X ++ s) = spanL isTail X := by unfold spanL; rw [e1]
  cases X with
  | nil => exact absurd rfl hX
  | cons c r =>
    unfold oneL at h ⊢
    rw [take_spanL] at h ⊢
    rw [e2, e1]
    split at h
    · rename_i h1; rw [if_pos h1]; exact h
    · rename_i h1
      rw [if_neg h1]
      split at h
      · rename_i h2; rw [if_pos h2]; exact h
      · rename_i h2
        rw [if_neg h2]
        simp only [List.cons_append] at h ⊢
        split at h
        · rename_i h3; rw [if_pos h3]; exact h
        · rename_i h3
          rw [if_neg h3]
          split at h
          · rename_i h4
            rw [if_pos h4]
            cases hq : strL r with
            | none => rw [hq] at h; simp at h
            | some x => rw [strL_app _ r s x.1 x.2 (Nat.le_refl _) hq]; rw [hq] at h; exact h
          · simp at h

/-- X is at a good end ahead of s: it ends in a newline, or bears no '#' and s begins with a blank. -/
def Ends (X s : List UInt8) : Prop := (∃ Y, X = Y ++ [10]) ∨ ((∀ c ∈ X, ((c.toNat : Int) == 35) = false) ∧ ∀ d t, s = d :: t → isBlank d = true)

theorem Ends.tail {c : UInt8} {X s : List UInt8} (h : Ends (c :: X) s) : X = [] ∨ Ends X s := by
  rcases h with ⟨Y, hY⟩ | h
  · cases Y with
    | nil => simp at hY; left; exact hY.2
    | cons a Y => simp at hY; right; left; exact ⟨Y, hY.2⟩
  · right; right; exact ⟨fun x hx => h.1 x (List.mem_cons_of_mem _ hx), h.2⟩
theorem Ends.drop {X s : List UInt8} (h : Ends X s) (n : Nat) : X.drop n = [] ∨ Ends (X.drop n) s := by
  induction n generalizing X with
  | zero => right; exact h
  | succ n ih =>
    cases X with
    | nil => left; simp
    | cons c X =>
      rw [List.drop_succ_cons]
      rcases h.tail with h | h
      · left; rw [h]; simp
      · exact ih h

theorem blank_not_tail {d : UInt8} (h : isBlank d = true) : isTail d = false := by
  unfold isBlank at h; simp at h; unfold isTail isLetter isDigit; simp; omega

theorem span_lt_of_mem {p : UInt8 → Bool} : ∀ (X : List UInt8) (c : UInt8), c ∈ X → p c = false → spanL p X < X.length := by
  intro X c hc hp
  have h1 := spanL_le p X
  rcases Nat.lt_or_ge (spanL p X) X.length with h | h
  · exact h
  · exfalso
    have h3 := take_spanL p X
    rw [List.take_of_length_le (by omega)] at h3
    have := all_takeWhile p X
    rw [← h3] at this
    have := List.all_eq_true.1 this c hc
    rw [hp] at this; simp at this

theorem R_app : ∀ (n : Nat) (X s : List UInt8) (line : Nat) (A : List Tok), X.length ≤ n → (X = [] ∨ Ends X s) → R line X = .ok A →
    ∃ A' line', A = A' ++ [(5, [], line')] ∧ R line (X ++ s) = (R line' s).map (A' ++ ·) := by
  intro n
  induction n with
  | zero =>
    intro X s line A hl _ h
    have : X = [] := List.eq_nil_of_length_eq_zero (by omega)
    subst this
    rw [R_nil] at h
    simp at h
    refine ⟨[], line, h.symm, ?_⟩
    simp; cases R line s <;> rfl
  | succ n ih =>
    intro X s line A hl hE h
    cases X with
    | nil =>
      rw [R_nil] at h
      simp at h
      refine ⟨[], line, h.symm, ?_⟩
      simp; cases R line s <;> rfl
    | cons c r =>
      have hE := hE.resolve_left (by simp)
      have hl' : r.length ≤ n := by simp at hl; exact hl
      cases h35 : ((c.toNat : Int) == 35)
      · cases hb : inL c [32, 9, 10, 13]
        · rw [R_tok line c r h35 hb] at h
          cases ho : oneL (c :: r) with
          | none => rw [ho] at h; simp at h
          | some y =>
            obtain ⟨k, t, m⟩ := y
            rw [ho] at h
            simp only [] at h
            have hm := oneL_len ho
            cases hr : R line ((c :: r).drop m) with
            | error e => rw [hr] at h; simp [Except.map] at h
            | ok B =>
              rw [hr] at h; simp only [Except.map, Except.ok.injEq] at h
              have hdl := drop_len_lt (c :: r) m hm.1 (by simp)
              obtain ⟨B', line', hB, hR⟩ := ih _ s line B (by simp only [List.length_cons] at hdl; omega) (hE.drop m) hr
              refine ⟨(k, t, line) :: B', line', by rw [← h, hB]; rfl, ?_⟩
              have happ := oneL_app (c :: r) s (by simp) _ ho (by
                rcases hE with ⟨Y, hY⟩ | hE
                · left; exact span_lt_of_mem _ 10 (by rw [hY]; simp) (by decide)
                · right; exact fun d t hd => blank_not_tail (hE.2 d t hd))
              rw [List.cons_append, R_tok line c (r ++ s) h35 hb, ← List.cons_append, happ]
              simp only []
              rw [List.drop_append_of_le_length hm.2, hR]
              cases R line' s <;> rfl
        · rw [R_blank line c r h35 hb] at h
          obtain ⟨A', line', hA, hR⟩ := ih r s _ A hl' hE.tail h
          refine ⟨A', line', hA, ?_⟩
          rw [List.cons_append, R_blank line c _ h35 hb, hR]
      · rcases hE with ⟨Y, hY⟩ | hE
        · have hlt : spanL notNl (c :: r) < (c :: r).length := span_lt_of_mem _ 10 (by rw [hY]; simp) (by decide)
          have h1 := span_comment_pos c r h35
          rw [R_comment line c r h35] at h
          have hdl := drop_len_lt (c :: r) _ h1 (by simp)
          obtain ⟨A', line', hA, hR⟩ := ih _ s line A (by simp only [List.length_cons] at hdl; omega) (Ends.drop (.inl ⟨Y, hY⟩) _) h
          refine ⟨A', line', hA, ?_⟩
          have e2 : spanL notNl (c :: r ++ s) = spanL notNl (c :: r) := by
            unfold spanL; rw [tw_app_lt (c :: r) s (.inl hlt)]
          rw [List.cons_append, R_comment line c _ h35, ← List.cons_append, e2, List.drop_append_of_le_length (by omega), hR]
        · have := hE.1 c (by simp); rw [h35] at this; simp at this

/-! ### Place -/
def badByte (b : UInt8) : Prop := b = 65 ∨ b = 0 ∨ b = 95 ∨ 128 ≤ b.toNat

theorem R_newlines (line m : Nat) (s : List UInt8) : R line (List.replicate m 10 ++ s) = R (line + m) s := by
  induction m generalizing line with
  | zero => simp
  | succ m ih =>
    rw [List.replicate_succ, List.cons_append, R_blank line 10 _ (by decide) (by decide), if_pos (by decide), ih]
    congr 1; omega

theorem R_bad (line : Nat) (b : UInt8) (hb : badByte b) : R line [32, b, 32, 120] = .error line := by
  rw [R_blank line 32 _ (by decide) (by decide), if_neg (by decide)]
  have ht : isTail b = false ∧ ((b.toNat : Int) == 35) = false ∧ inL b [32, 9, 10, 13] = false ∧ inL b [123, 125, 59, 44, 47] = false ∧ ((b.toNat : Int) == 34) = false := by
    rcases hb with rfl | rfl | rfl | hb
    · decide
    · decide
    · decide
    · refine ⟨?_, ?_, ?_, ?_, ?_⟩
      · unfold isTail isLetter isDigit; simp; omega
      · rw [beq_eq_false_iff_ne]; omega
      · unfold inL; simp; omega
      · unfold inL; simp; omega
      · rw [beq_eq_false_iff_ne]; omega
  obtain ⟨h1, h2, h3, h4, h5⟩ := ht
  rw [R_tok line b _ h2 h3]
  have : oneL [b, 32, 120] = none := by
    unfold oneL
    rw [spanL_cons_neg _ h1]
    simp only [List.take_zero]
    rw [show wordB [] = false from rfl, show numB [] = false from rfl, h4, h5]
    simp
  rw [this]

theorem place_law (X : List UInt8) (m : Nat) (b : UInt8) (A : List Tok) (hX : ∀ c ∈ X, ((c.toNat : Int) == 35) = false) (hb : badByte b) (h : R 1 X = .ok A) :
    ∃ A' line', A = A' ++ [(5, [], line')] ∧ R 1 (X ++ (List.replicate m 10 ++ [32, b, 32, 120])) = .error (line' + m) := by
  obtain ⟨A', line', hA, hR⟩ := R_app _ X (List.replicate m 10 ++ [32, b, 32, 120]) 1 A (Nat.le_refl _) (.inr (.inr ⟨hX, fun d t hd => by
    cases m with
    | zero => simp at hd; rw [← hd.1]; decide
    | succ m => rw [List.replicate_succ] at hd; simp at hd; rw [← hd.1]; decide⟩)) h
  refine ⟨A', line', hA, ?_⟩
  rw [hR, R_newlines, R_bad _ _ hb]
  rfl

/-! ### Blanks -/
theorem R_gap (line : Nat) (g s : List UInt8) (hg : ∀ c ∈ g, isBlank c = true) : ∃ line', R line (g ++ s) = R line' s := by
  induction g generalizing line with
  | nil => exact ⟨line, rfl⟩
  | cons c g ih =>
    have hc := hg c (by simp)
    have h35 : ((c.toNat : Int) == 35) = false := by
      rw [beq_eq_false_iff_ne]; intro h; simp [isBlank, h] at hc
    obtain ⟨line', h⟩ := ih (if (c.toNat : Int) == 10 then line + 1 else line) (fun c hc => hg c (by simp [hc]))
    exact ⟨line', by rw [List.cons_append, R_blank line c _ h35 (by rw [blank_in]; exact hc), h]⟩

theorem R_note (line : Nat) (note s : List UInt8) (hn : ∀ c ∈ note, notNl c = true) : R line (35 :: note ++ 10 :: s) = R (line + 1) s := by
  rw [List.cons_append, R_comment line 35 _ (by decide)]
  have : (35 :: (note ++ 10 :: s)).drop (spanL notNl (35 :: (note ++ 10 :: s))) = 10 :: s := by
    rw [drop_spanL, List.dropWhile_cons_of_pos (by decide)]
    induction note with
    | nil => rw [List.nil_append, List.dropWhile_cons_of_neg (by decide)]
    | cons c note ih =>
      rw [List.cons_append, List.dropWhile_cons_of_pos (hn c (by simp))]
      exact ih (fun c hc => hn c (by simp [hc]))
  rw [this, R_blank line 10 _ (by decide) (by decide), if_pos (by decide)]

theorem eqT_false_cons (k : Int) (t : List UInt8) (i j : Nat) (A B : List Tok) : eqT false ((k, t, i) :: A) ((k, t, j) :: B) = eqT false A B := by
  conv => lhs; unfold eqT
  simp [tokEq]

theorem R_lines : ∀ (n : Nat) (l : List UInt8) (i j : Nat) (A : List Tok), l.length ≤ n → R i l = .ok A → ∃ B, R j l = .ok B ∧ eqT false B A = true ∧ B.length = A.length := by
  intro n
  induction n with
  | zero =>
    intro l i j A hl h
    have : l = [] := List.eq_nil_of_length_eq_zero (by omega)
    subst this
    rw [R_nil] at h
    simp at h
    exact ⟨[(5, [], j)], rfl, by rw [← h, eqT_false_cons]; rfl, by rw [← h]; rfl⟩
  | succ n ih =>
    intro l i j A hl h
    cases l with
    | nil =>
      rw [R_nil] at h
      simp at h
      exact ⟨[(5, [], j)], rfl, by rw [← h, eqT_false_cons]; rfl, by rw [← h]; rfl⟩
    | cons c r =>
      have hl' : r.length ≤ n := by simp at hl; exact hl
      cases h35 : ((c.toNat : Int) == 35)
      · cases hb : inL c [32, 9, 10, 13]
        · rw [R_tok _ c r h35 hb] at h ⊢
          cases ho : oneL (c :: r) with
          | none => rw [ho] at h; simp at h
          | some y =>
            obtain ⟨k, t, m⟩ := y
            rw [ho] at h
            simp only [] at h ⊢
            cases hr : R i ((c :: r).drop m) with
            | error e => rw [hr] at h; simp [Except.map] at h
            | ok C =>
              rw [hr] at h; simp only [Except.map, Except.ok.injEq] at h
              have hdl := drop_len_lt (c :: r) m (oneL_len ho).1 (by simp)
              obtain ⟨B, hB, hE, hL⟩ := ih _ i j C (by simp only [List.length_cons] at hdl; omega) hr
              exact ⟨(k, t, j) :: B, by rw [hB]; rfl, by rw [← h, eqT_false_cons]; exact hE, by rw [← h, List.length_cons, List.length_cons, hL]⟩
        · rw [R_blank _ c r h35 hb] at h ⊢
          exact ih r _ _ A hl' h
      · rw [R_comment _ c r h35] at h ⊢
        have hdl := drop_len_lt (c :: r) _ (span_comment_pos c r h35) (by simp)
        exact ih _ _ _ A (by simp only [List.length_cons] at hdl; omega) h

theorem eqT_app (lines : Bool) : ∀ (C A B : List Tok), eqT lines (C ++ A) (C ++ B) = eqT lines A B
  | [], _, _ => rfl
  | c :: C, A, B => by
    rw [List.cons_append, List.cons_append]
    show (tokEq lines c c && eqT lines (C ++ A) (C ++ B)) = eqT lines A B
    rw [eqT_app lines C A B, show tokEq lines c c = true by simp [tokEq]]
    rfl

theorem blanks_law (a b note g1 : List UInt8) (A B : List Tok) (hA : R 1 (a ++ [10]) = .ok A) (hB : R 1 b = .ok B) (hg : ∀ c ∈ g1, isBlank c = true) (hn : ∀ c ∈ note, notNl c = true) :
    ∃ A' line' C, A = A' ++ [(5, [], line')] ∧ R 1 ((a ++ [10]) ++ (g1 ++ (35 :: note ++ 10 :: (g1 ++ b)))) = .ok (A' ++ C) ∧ eqT false (A' ++ C) (A' ++ B) = true ∧ C.length = B.length := by
  obtain ⟨A', line', hA', hR⟩ := R_app _ (a ++ [10]) (g1 ++ (35 :: note ++ 10 :: (g1 ++ b))) 1 A (Nat.le_refl _) (.inr (.inl ⟨a, rfl⟩)) hA
  obtain ⟨l1, h1⟩ := R_gap line' g1 (35 :: note ++ 10 :: (g1 ++ b)) hg
  obtain ⟨l2, h2⟩ := R_gap (l1 + 1) g1 b hg
  obtain ⟨C, hC, hE, hL⟩ := R_lines _ b 1 l2 B (Nat.le_refl _) hB
  refine ⟨A', line', C, hA', ?_, by rw [eqT_app]; exact hE, hL⟩
  rw [hR, h1, R_note _ _ _ hn, h2, hC]
  rfl

end Go.Proofs.Ythdcgplocdehjaa
