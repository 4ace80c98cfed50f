/- A text cut off: its tokens. -/
import Derived.Test.YthdcgplocdehjaaJa
namespace Go.Proofs.Ythdcgplocdehjaa
open Go.RowKit Go.Proofs.Kit

/-- T2: the tokens of a text whose beginning has the tokens T2, but for a last word or number that is cut. -/
inductive Ct : List Tok → List Tok → Prop
  | stop (T : List Tok) (n : Nat) : T ≠ [] → Ct T [(5, [], n)]
  | part (k : Int) (t t' : List UInt8) (n : Nat) (r : List Tok) : k = 1 ∨ k = 2 → r ≠ [] → Ct ((k, t, n) :: r) [(k, t', n), (5, [], n)]
  | cons (t : Tok) (r1 r2 : List Tok) : Ct r1 r2 → Ct (t :: r1) (t :: r2)
theorem spanL_take (p : UInt8 → Bool) : ∀ (l : List UInt8) (m : Nat), spanL p (l.take m) = min m (spanL p l) := by
  intro l
  induction l with
  | nil => intro m; simp [spanL]
  | cons c r ih =>
    intro m
    cases m with
    | zero => simp [spanL]
    | succ m =>
      rw [List.take_succ_cons]
      cases hc : p c
      · rw [spanL_cons_neg _ hc, spanL_cons_neg _ hc]; omega
      · rw [spanL_cons_pos _ hc, spanL_cons_pos _ hc, ih]; omega
theorem span_le (p : UInt8 → Bool) (l : List UInt8) : spanL p l ≤ l.length := by
  have := congrArg List.length (take_spanL p l)
  unfold spanL
  exact (List.takeWhile_prefix p).length_le
theorem drop_span_take (p : UInt8 → Bool) (l : List UInt8) (m : Nat) : (l.take m).drop (spanL p (l.take m)) = (l.drop (spanL p l)).take (m - spanL p l) := by
  rw [spanL_take]
  by_cases h : m ≤ spanL p l
  · rw [Nat.min_eq_left h, show m - spanL p l = 0 by omega, List.take_zero, List.drop_take, Nat.sub_self, List.take_zero]
  · rw [Nat.min_eq_right (by omega), List.drop_take]
theorem word_take {v : List UInt8} (h : wordB v = true) {j : Nat} (h1 : 1 ≤ j) : wordB (v.take j) = true := by
  obtain ⟨h2, h3⟩ := wordB_all h
  cases v with
  | nil => simp at h3
  | cons c r =>
    obtain ⟨i, rfl⟩ : ∃ i, j = i + 1 := ⟨j - 1, by omega⟩
    have hl := wordB_head h
    rw [List.take_succ_cons]
    have ha : (c :: r.take i).all isTail = true := by
      rw [List.all_eq_true] at *
      intro x hx
      refine h2 x ?_
      rcases List.mem_cons.1 hx with rfl | hx
      · simp
      · exact List.mem_cons_of_mem _ (List.mem_of_mem_take hx)
    unfold wordB
    rw [wordL_cons, if_pos hl, spanL_all ha]
    simp
theorem num_take {v : List UInt8} (h : numB v = true) {j : Nat} (h1 : 1 ≤ j) (h2 : j < v.length) : numB (v.take j) = true := by
  unfold numB at *
  simp only [Bool.and_eq_true, decide_eq_true_eq, Bool.or_eq_true] at *
  obtain ⟨⟨⟨a, b⟩, c⟩, d⟩ := h
  have hl : (v.take j).length = j := by rw [List.length_take]; omega
  rw [hl]
  refine ⟨⟨⟨?_, h1⟩, by omega⟩, ?_⟩
  · rw [List.all_eq_true] at *
    exact fun x hx => a x (List.mem_of_mem_take hx)
  · rcases d with d | d
    · omega
    · right
      cases v with
      | nil => simp at h2
      | cons c r =>
        obtain ⟨i, rfl⟩ : ∃ i, j = i + 1 := ⟨j - 1, by omega⟩
        rw [List.take_succ_cons]
        exact d
theorem strL_cut : ∀ (N : Nat) (l t : List UInt8) (n : Nat), l.length ≤ N → strL l = some (t, n) → ∀ m, (n ≤ m → strL (l.take m) = some (t, n)) ∧ (m < n → strL (l.take m) = none) := by
  intro N
  induction N with
  | zero => intro l t n hl h; cases l with
    | nil => simp [strL] at h
    | cons a r => simp at hl
  | succ N ih =>
    intro l t n hl h m
    cases l with
    | nil => simp [strL] at h
    | cons c r =>
      cases m with
      | zero =>
        rw [List.take_zero]
        refine ⟨fun hn => ?_, fun _ => rfl⟩
        have := (strL_len _ (c :: r) t n (Nat.le_refl _) h).1
        omega
      | succ m =>
        rw [List.take_succ_cons]
        unfold strL at h
        split at h
        · rename_i hq
          simp at h
          obtain ⟨rfl, rfl⟩ := h
          refine ⟨fun _ => ?_, fun hn => by omega⟩
          unfold strL
          rw [if_pos hq]
        · rename_i hq
          split at h
          · rename_i hb
            cases r with
            | nil => simp at h
            | cons d r' =>
              simp only [] at h
              split at h
              · rename_i hd
                cases hs : strL r' with
                | none => rw [hs] at h; simp at h
                | some x =>
                  obtain ⟨t2, n2⟩ := x
                  rw [hs] at h
                  simp at h
                  obtain ⟨rfl, rfl⟩ := h
                  cases m with
                  | zero =>
                    rw [List.take_zero]
                    refine ⟨fun hn => by omega, fun _ => ?_⟩
                    unfold strL
                    rw [if_neg hq, if_pos hb]
                  | succ m =>
                    rw [List.take_succ_cons]
                    obtain ⟨i1, i2⟩ := ih r' t2 n2 (by simp at hl; omega) hs m
                    refine ⟨fun hn => ?_, fun hn => ?_⟩
                    · unfold strL
                      rw [if_neg hq, if_pos hb]
                      simp only []
                      rw [if_pos hd, i1 (by omega)]
                      rfl
                    · unfold strL
                      rw [if_neg hq, if_pos hb]
                      simp only []
                      rw [if_pos hd, i2 (by omega)]
                      rfl
              · simp at h
          · rename_i hb
            split at h
            · rename_i hp
              cases hs : strL r with
              | none => rw [hs] at h; simp at h
              | some x =>
                obtain ⟨t2, n2⟩ := x
                rw [hs] at h
                simp at h
                obtain ⟨rfl, rfl⟩ := h
                obtain ⟨i1, i2⟩ := ih r t2 n2 (by simp at hl; omega) hs m
                refine ⟨fun hn => ?_, fun hn => ?_⟩
                · unfold strL
                  rw [if_neg hq, if_neg hb, if_pos hp, i1 (by omega)]
                  rfl
                · unfold strL
                  rw [if_neg hq, if_neg hb, if_pos hp, i2 (by omega)]
                  rfl
            · simp at h
theorem mark_not_tail {c : UInt8} (h : inL c [123, 125, 59, 44, 47] = true) : isTail c = false := by
  unfold inL at h
  simp only [List.any_cons, List.any_nil, Bool.or_false, Bool.or_eq_true, beq_iff_eq] at h
  rw [show ((123 : UInt8).toNat : Int) = 123 from rfl, show ((125 : UInt8).toNat : Int) = 125 from rfl, show ((59 : UInt8).toNat : Int) = 59 from rfl, show ((44 : UInt8).toNat : Int) = 44 from rfl, show ((47 : UInt8).toNat : Int) = 47 from rfl] at h
  cases ht : isTail c
  · rfl
  · exfalso
    unfold isTail isLetter isDigit at ht
    simp only [Bool.or_eq_true, Bool.and_eq_true, decide_eq_true_eq, beq_iff_eq] at ht
    omega
theorem oneL_cut {c : UInt8} {r t : List UInt8} {k : Int} {n : Nat} (h : oneL (c :: r) = some (k, t, n)) (m : Nat) :
    (n ≤ m + 1 → oneL (c :: r.take m) = some (k, t, n)) ∧ (m + 1 < n → oneL (c :: r.take m) = none ∨ ((k = 1 ∨ k = 2) ∧ oneL (c :: r.take m) = some (k, c :: r.take m, (c :: r.take m).length))) := by
  have eP : c :: r.take m = (c :: r).take (m + 1) := rfl
  obtain ⟨l, hl⟩ : ∃ l, c :: r = l := ⟨_, rfl⟩
  have hsp : spanL isTail (l.take (m + 1)) = min (m + 1) (spanL isTail l) := spanL_take _ _ _
  have hle := span_le isTail l
  have h0 := h
  unfold oneL at h
  rw [hl] at h
  split at h
  · rename_i hw
    simp at h
    obtain ⟨rfl, rfl, rfl⟩ := h
    refine ⟨fun hn => ?_, fun hn => .inr ⟨.inl rfl, ?_⟩⟩
    · rw [eP, hl]
      unfold oneL
      rw [hsp, Nat.min_eq_right hn, List.take_take, Nat.min_eq_left hn, if_pos hw]
    · rw [eP, hl]
      have hlen : (l.take (m + 1)).length = m + 1 := by rw [List.length_take]; omega
      unfold oneL
      rw [hsp, Nat.min_eq_left (by omega), List.take_take, Nat.min_self, if_pos, hlen]
      have := word_take hw (j := m + 1) (by omega)
      rw [List.take_take, Nat.min_eq_left (by omega)] at this
      exact this
  · rename_i hw
    split at h
    · rename_i hnb
      simp at h
      obtain ⟨rfl, rfl, rfl⟩ := h
      refine ⟨fun hn => ?_, fun hn => .inr ⟨.inr rfl, ?_⟩⟩
      · rw [eP, hl]
        unfold oneL
        rw [hsp, Nat.min_eq_right hn, List.take_take, Nat.min_eq_left hn, if_neg hw, if_pos hnb]
      · rw [eP, hl]
        have hlen : (l.take (m + 1)).length = m + 1 := by rw [List.length_take]; omega
        have hl2 : (l.take (spanL isTail l)).length = spanL isTail l := by rw [List.length_take]; omega
        have hn2 := num_take hnb (j := m + 1) (by omega) (by omega)
        rw [List.take_take, Nat.min_eq_left (by omega)] at hn2
        unfold oneL
        rw [hsp, Nat.min_eq_left (by omega), List.take_take, Nat.min_self, if_neg (by rw [num_word hn2]; simp), if_pos hn2, hlen]
    · rename_i hnb
      rw [← hl] at h
      simp only [] at h
      split at h
      · rename_i hm
        simp at h
        obtain ⟨rfl, rfl, rfl⟩ := h
        refine ⟨fun _ => ?_, fun hn => by omega⟩
        unfold oneL
        rw [span_zero _ (mark_not_tail hm), List.take_zero, if_neg (by decide), if_neg (by decide)]
        simp only []
        rw [if_pos hm]
      · rename_i hm
        split at h
        · rename_i h34
          have hnt : isTail c = false := by
            have h3 : (c.toNat : Int) = 34 := by simpa using h34
            cases ht : isTail c
            · rfl
            · exfalso
              unfold isTail isLetter isDigit at ht
              simp only [Bool.or_eq_true, Bool.and_eq_true, decide_eq_true_eq, beq_iff_eq] at ht
              omega
          cases hs : strL r with
          | none => rw [hs] at h; simp at h
          | some x =>
            obtain ⟨t2, n2⟩ := x
            rw [hs] at h
            simp at h
            obtain ⟨rfl, rfl, rfl⟩ := h
            obtain ⟨i1, i2⟩ := strL_cut _ r t2 n2 (Nat.le_refl _) hs m
            refine ⟨fun hn => ?_, fun hn => .inl ?_⟩
            · unfold oneL
              rw [span_zero _ hnt, List.take_zero, if_neg (by decide), if_neg (by decide)]
              simp only []
              rw [if_neg hm, if_pos h34, i1 (by omega)]
              rfl
            · unfold oneL
              rw [span_zero _ hnt, List.take_zero, if_neg (by decide), if_neg (by decide)]
              simp only []
              rw [if_neg hm, if_pos h34, i2 (by omega)]
              rfl
        · simp at h
theorem R_ok {line : Nat} {l : List UInt8} {T : List Tok} (h : R line l = .ok T) : LexOk line l T := by
  have e := lex_ref l.length (l.length + 1) line l (Nat.le_refl _) (by omega)
  rw [h] at e
  exact lexL_ok _ _ _ _ e
theorem lex_cut : ∀ (N line : Nat) (l : List UInt8) (T1 : List Tok), l.length ≤ N → R line l = .ok T1 → ∀ m, (∃ e, R line (l.take m) = .error e) ∨ ∃ T2, R line (l.take m) = .ok T2 ∧ Ct T1 T2 := by
  intro N
  induction N with
  | zero =>
    intro line l T1 hl h m
    cases l with
    | nil =>
      rw [List.take_nil]
      exact .inr ⟨_, R_nil line, .stop _ _ (by have := (R_ok h).pos; intro e; rw [e] at this; simp at this)⟩
    | cons a r => simp at hl
  | succ N ih =>
    intro line l T1 hl h m
    have hne : T1 ≠ [] := by have := (R_ok h).pos; intro e; rw [e] at this; simp at this
    cases l with
    | nil =>
      rw [List.take_nil]
      exact .inr ⟨_, R_nil line, .stop _ _ hne⟩
    | cons c r =>
      cases m with
      | zero =>
        rw [List.take_zero]
        exact .inr ⟨_, R_nil line, .stop _ _ hne⟩
      | succ m =>
        rw [List.take_succ_cons]
        cases h35 : ((c.toNat : Int) == 35)
        · cases hb : inL c [32, 9, 10, 13]
          · rw [R_tok line c r h35 hb] at h
            rw [R_tok line c (r.take m) h35 hb]
            cases ho : oneL (c :: r) with
            | none => rw [ho] at h; simp at h
            | some x =>
              obtain ⟨k, t, n⟩ := x
              rw [ho] at h
              simp only [] at h
              have hln := oneL_len ho
              cases hr : R line ((c :: r).drop n) with
              | error e => rw [hr] at h; simp [Except.map] at h
              | ok S =>
                rw [hr] at h
                have h : (k, t, line) :: S = T1 := by simpa [Except.map] using h
                subst h
                have hS : S ≠ [] := by have := (R_ok hr).pos; intro e; rw [e] at this; simp at this
                obtain ⟨o1, o2⟩ := oneL_cut ho m
                by_cases hn : n ≤ m + 1
                · rw [o1 hn]
                  simp only []
                  have ed : (c :: r.take m).drop n = ((c :: r).drop n).take (m + 1 - n) := by
                    rw [show c :: r.take m = (c :: r).take (m + 1) from rfl, List.drop_take]
                  rw [ed]
                  rcases ih line ((c :: r).drop n) S (by rw [List.length_drop]; simp at hl ⊢; omega) hr (m + 1 - n) with ⟨e, he⟩ | ⟨T2, h2, hc⟩
                  · exact .inl ⟨e, by rw [he]; rfl⟩
                  · exact .inr ⟨(k, t, line) :: T2, by rw [h2]; rfl, .cons _ _ _ hc⟩
                · rcases o2 (by omega) with o3 | ⟨hk, o3⟩
                  · rw [o3]
                    exact .inl ⟨line, rfl⟩
                  · rw [o3]
                    simp only []
                    rw [List.drop_length, R_nil]
                    exact .inr ⟨_, rfl, .part _ _ _ _ _ hk hS⟩
          · rw [R_blank line c r h35 hb] at h
            rw [R_blank line c (r.take m) h35 hb]
            exact ih _ r T1 (by simp at hl; omega) h m
        · rw [R_comment line c r h35] at h
          rw [R_comment line c (r.take m) h35]
          rw [show c :: r.take m = (c :: r).take (m + 1) from rfl, drop_span_take]
          have hsp := span_comment_pos c r h35
          exact ih line _ T1 (by rw [List.length_drop]; simp at hl ⊢; omega) h _
/-- What a cut says of the tokens. -/
theorem Ct.look {T1 T2 : List Tok} (h : Ct T1 T2) : ∃ k E, k + 1 = T2.length ∧ T2.length ≤ T1.length ∧ tk T2 k = (5, [], E) ∧ ∀ j, j < k → (tk T1 j).1 = (tk T2 j).1 ∧ ((tk T1 j).1 = 4 → (tk T1 j).2.1 = (tk T2 j).2.1) ∧ ((tk T1 j).2.1 = (tk T2 j).2.1 ∨ (tk T2 j).2.2 = E) := by
  induction h with
  | stop T n hT =>
    refine ⟨0, n, rfl, ?_, rfl, fun j hj => by omega⟩
    cases T with
    | nil => exact absurd rfl hT
    | cons a r => simp
  | part k t t' n r hk hr =>
    refine ⟨1, n, rfl, ?_, rfl, fun j hj => ?_⟩
    · cases r with
      | nil => exact absurd rfl hr
      | cons a r => simp
    · obtain rfl : j = 0 := by omega
      refine ⟨rfl, fun h4 => ?_, .inr rfl⟩
      have h4 : k = 4 := h4
      omega
  | cons t r1 r2 _ ih =>
    obtain ⟨k, E, h1, h2, h3, h4⟩ := ih
    refine ⟨k + 1, E, by simp [h1], by simp; omega, h3, fun j hj => ?_⟩
    cases j with
    | zero => exact ⟨rfl, fun _ => rfl, .inl rfl⟩
    | succ j => exact h4 j (by omega)
section
variable {α : Type}
/-- A text that ends inside a definition. -/
theorem cut_law (s : SrcA α) (hs : srcOk s = true) (hlen : (srcL s).length ≤ 20000) {a : Nat} (ha : a + 2 < (srcL s).length) {T2 : List Tok} (h : lexL (((srcL s).take a).length + 1) 1 ((srcL s).take a) = .ok T2) :
    0 < T2.length ∧ parseL ((srcL s).take a) = .error (tk T2 (T2.length - 1)).2.2 := by
  have hX : (srcL s).length = (cutL' s).length + 2 := by rw [srcL_cut, List.length_append]; rfl
  have e1 : (srcL s).take a = (cutL' s).take a := by rw [srcL_cut, List.take_append_of_le_length (by omega)]
  have hR : R 1 (cutL' s) = .ok (headTok s ++ [(5, [], endLine s.2 2)]) := by
    have := L_head s [] hs
    rw [List.append_nil, R_nil] at this
    exact this
  have hk := lexL_ok _ _ _ _ h
  have h2 := h
  rw [lex_all] at h2
  have h2 : R 1 ((cutL' s).take a) = .ok T2 := by rw [← e1]; exact h2
  rcases lex_cut _ 1 _ _ (Nat.le_refl _) hR a with ⟨e, he⟩ | ⟨T3, h3, hc⟩
  · rw [he] at h2; simp at h2
  · rw [h3] at h2
    obtain rfl : T3 = T2 := by injection h2
    obtain ⟨k, E, c1, c2, c3, c4⟩ := hc.look
    have hlt : (headTok s ++ [(5, [], endLine s.2 2)]).length = (headTok s).length + 1 := by simp
    have hst : (srcTok s).length = (headTok s).length + 2 := by unfold srcTok; simp
    have htk : ∀ j, j < k → tk (headTok s ++ [(5, [], endLine s.2 2)]) j = tk (srcTok s) j := fun j hj => by
      unfold tk srcTok
      rw [List.getD_eq_getElem?_getD, List.getD_eq_getElem?_getD, List.getElem?_append_left (by omega), List.getElem?_append_left (by omega)]
    obtain ⟨p1, p2, p3⟩ := P_src s hs
    have hE : E ≠ 0 := by
      have := (hk.line k (by omega)).1
      rw [c3] at this
      simp only at this
      omega
    have hok1 : TOk (srcTok s) := by
      have e := L_src s hs
      have e2 := lex_ref (srcL s).length ((srcL s).length + 1) 1 (srcL s) (Nat.le_refl _) (by omega)
      rw [e] at e2
      exact (lexL_ok _ _ _ _ e2).tok hlen
    have hcx : Cx (srcTok s) T3 k E := ⟨c3, hE, fun j hj => by rw [← htk j hj]; exact (c4 j hj).1, fun j hj h4 => by rw [← htk j hj] at h4 ⊢; exact (c4 j hj).2.1 h4, fun j hj => by rw [← htk j hj]; exact (c4 j hj).2.2, by omega, c1, hok1⟩
    have hf := cut_parse hcx p2 p3
    refine ⟨by omega, ?_⟩
    unfold parseL
    rw [h]
    simp only []
    rw [if_neg (by rw [hf]; exact hE), hf, show T3.length - 1 = k by omega, c3]
end

end Go.Proofs.Ythdcgplocdehjaa
