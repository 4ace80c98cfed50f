import Derived.Test.YthdcgplocdehjaaZD
import Derived.Test.YthdcgplocdehjaaZI
import Derived.Test.YthdcgplocdehjaaFa
/- What a printed definition is lexed as. -/
namespace Go.Proofs.Ythdcgplocdehjaa
open Go.RowKit Go.Proofs.Kit

theorem addT_nil (x : Except Nat (List Tok)) : addT [] x = x := by cases x <;> rfl
theorem addT_add (a b : List Tok) (x : Except Nat (List Tok)) : addT a (addT b x) = addT (a ++ b) x := by
  cases x with
  | error e => rfl
  | ok l => show Except.ok (a ++ (b ++ l)) = Except.ok (a ++ b ++ l); rw [List.append_assoc]
theorem map_addT (t : Tok) (x : Except Nat (List Tok)) : x.map (fun y => t :: y) = addT [t] x := by cases x <;> rfl
def tailOk (s : List UInt8) : Prop := ∀ d t, s = d :: t → isTail d = false

theorem L_blank (line : Nat) (c : UInt8) (r : List UInt8) (h : isBlank c = true) (h10 : ((c.toNat : Int) == 10) = false) : R line (c :: r) = R line r := by
  have h35 : ((c.toNat : Int) == 35) = false := by
    rw [beq_eq_false_iff_ne]; intro h'; simp [isBlank, h'] at h
  rw [R_blank line c r h35 (by rw [blank_in]; exact h), h10]
  rfl
theorem L_space (line : Nat) (r : List UInt8) : R line (32 :: r) = R line r := L_blank line 32 r rfl rfl
theorem L_nl (line : Nat) (r : List UInt8) : R line (10 :: r) = R (line + 1) r := R_blank line 10 r rfl rfl
theorem span_zero {c : UInt8} (r : List UInt8) (h : isTail c = false) : spanL isTail (c :: r) = 0 := spanL_cons_neg r h
theorem L_mark (line : Nat) (c : UInt8) (r : List UInt8) (h35 : ((c.toNat : Int) == 35) = false) (hb : isBlank c = false) (ht : isTail c = false) (hm : inL c [123, 125, 59, 44, 47] = true) : R line (c :: r) = addT [(4, [c], line)] (R line r) := by
  rw [R_tok line c r h35 (by rw [blank_in]; exact hb)]
  have e : oneL (c :: r) = some (4, [c], 1) := by
    unfold oneL
    rw [span_zero r ht, List.take_zero, if_neg (by decide), if_neg (by decide)]
    simp only []
    rw [if_pos hm]
  rw [e]
  exact map_addT _ _
theorem span_app {v s : List UInt8} (hv : v.all isTail = true) (hs : tailOk s) : spanL isTail (v ++ s) = v.length := by
  unfold spanL
  rw [takeWhile_app _ _ _ hv]
  cases s with
  | nil => simp
  | cons d t =>
    rw [List.takeWhile_cons, if_neg (by rw [hs d t rfl]; simp), List.append_nil]
theorem tail_plain {c : UInt8} (h : isTail c = true) : ((c.toNat : Int) == 35) = false ∧ isBlank c = false := by
  unfold isTail isLetter isDigit at h
  simp only [Bool.or_eq_true, Bool.and_eq_true, decide_eq_true_eq, beq_iff_eq] at h
  unfold isBlank
  refine ⟨by rw [beq_eq_false_iff_ne]; omega, ?_⟩
  simp only [Bool.or_eq_false_iff, beq_eq_false_iff_ne]
  omega
theorem L_word (line : Nat) (v s : List UInt8) (hv : wordB v = true) (hs : tailOk s) : R line (v ++ s) = addT [(1, v, line)] (R line s) := by
  obtain ⟨h1, h2⟩ := wordB_all hv
  cases v with
  | nil => simp at h2
  | cons c r =>
    obtain ⟨g1, g2⟩ := tail_plain (List.all_eq_true.1 h1 c (by simp))
    rw [List.cons_append, R_tok line c (r ++ s) g1 (by rw [blank_in]; exact g2), ← List.cons_append]
    have e : oneL ((c :: r) ++ s) = some (1, c :: r, (c :: r).length) := by
      unfold oneL
      rw [span_app h1 hs, List.take_left, if_pos hv]
    rw [e]
    simp only []
    rw [List.drop_left]
    exact map_addT _ _
theorem num_word {v : List UInt8} (h : numB v = true) : wordB v = false := by
  cases hw : wordB v
  · rfl
  · cases v with
    | nil => simp [wordB] at hw
    | cons c r =>
      have h1 := wordB_head hw
      have h2 := numB_head h
      rw [letter_not_digit h1] at h2
      exact h2.symm
theorem L_num (line : Nat) (v s : List UInt8) (hv : numB v = true) (hs : tailOk s) : R line (v ++ s) = addT [(2, v, line)] (R line s) := by
  obtain ⟨h1, h2⟩ := numB_all hv
  have h1 := digits_tails h1
  cases v with
  | nil => simp at h2
  | cons c r =>
    obtain ⟨g1, g2⟩ := tail_plain (List.all_eq_true.1 h1 c (by simp))
    rw [List.cons_append, R_tok line c (r ++ s) g1 (by rw [blank_in]; exact g2), ← List.cons_append]
    have e : oneL ((c :: r) ++ s) = some (2, c :: r, (c :: r).length) := by
      unfold oneL
      rw [span_app h1 hs, List.take_left, if_neg (by rw [num_word hv]; simp), if_pos hv]
    rw [e]
    simp only []
    rw [List.drop_left]
    exact map_addT _ _
theorem strL_esc : ∀ (v s : List UInt8), v.all isPrint = true → strL (escL v ++ 34 :: s) = some (v, (escL v).length + 1) := by
  intro v
  induction v with
  | nil =>
    intro s _
    show strL (34 :: s) = some ([], 1)
    unfold strL
    rw [if_pos (by decide)]
  | cons c r ih =>
    intro s h
    rw [List.all_cons, Bool.and_eq_true] at h
    have e : escL (c :: r) = (if ((c.toNat : Int) == 34 || (c.toNat : Int) == 92) then [92, c] else [c]) ++ escL r := by simp [escL]
    rw [e]
    cases hq : ((c.toNat : Int) == 34 || (c.toNat : Int) == 92)
    · rw [if_neg (by simp)]
      rw [Bool.or_eq_false_iff] at hq
      show strL (c :: (escL r ++ 34 :: s)) = _
      unfold strL
      rw [hq.1, hq.2, h.1, ih s h.2]
      simp
    · rw [if_pos rfl]
      show strL (92 :: c :: (escL r ++ 34 :: s)) = _
      unfold strL
      rw [if_neg (by decide), if_pos (by decide)]
      simp only []
      rw [hq, if_pos rfl, ih s h.2]
      simp
theorem L_str (line : Nat) (v s : List UInt8) (hv : v.all isPrint = true) : R line ((34 :: escL v ++ [34]) ++ s) = addT [(3, v, line)] (R line s) := by
  have e0 : (34 :: escL v ++ [34]) ++ s = 34 :: (escL v ++ 34 :: s) := by simp
  rw [e0, R_tok line 34 _ rfl rfl]
  have e : oneL (34 :: (escL v ++ 34 :: s)) = some (3, v, (escL v).length + 2) := by
    unfold oneL
    rw [span_zero _ (show isTail 34 = false from rfl), List.take_zero, if_neg (by decide), if_neg (by decide)]
    simp only []
    rw [if_neg (by decide), if_pos (by decide), strL_esc v s hv]
    rfl
  rw [e]
  simp only []
  have ed : (34 :: (escL v ++ 34 :: s)).drop ((escL v).length + 2) = s := by
    rw [show (escL v).length + 2 = ((escL v).length + 1) + 1 by omega, List.drop_succ_cons]
    rw [show escL v ++ 34 :: s = (escL v ++ [34]) ++ s by simp, show (escL v).length + 1 = (escL v ++ [34]).length by simp, List.drop_left]
  rw [ed]
  exact map_addT _ _
/-- The tokens of a value. -/
def valTok (v : List UInt8) (n : Nat) : List Tok :=
  if wordB v then [(1, v, n)] else if numB v then [(2, v, n)]
  else if rbareL v then [(2, v.take (spanL noSlash v), n), (4, [47], n), (2, v.drop (spanL noSlash v + 1), n)] else [(3, v, n)]
theorem slash_split {v : List UInt8} (h : spanL noSlash v < v.length) : v = v.take (spanL noSlash v) ++ 47 :: v.drop (spanL noSlash v + 1) := by
  have hsl : noSlash (v[spanL noSlash v]'h) = false := by
    have h1 := drop_spanL noSlash v
    rw [← List.getElem_cons_drop h] at h1
    exact dropWhile_head _ _ _ _ h1.symm
  have e47 : v[spanL noSlash v]'h = 47 := by
    revert hsl
    generalize v[spanL noSlash v]'h = c
    intro hsl
    unfold noSlash at hsl
    have : (c.toNat : Int) = 47 := by simpa using hsl
    exact UInt8.toNat_inj.1 (by simp; omega)
  conv => lhs; rw [← List.take_append_drop (spanL noSlash v) v, ← List.getElem_cons_drop h, e47]
theorem bare_kinds {v : List UInt8} (h : rbareL v = true) (hw : wordB v = false) (hn : numB v = false) : spanL noSlash v < v.length ∧ numB (v.take (spanL noSlash v)) = true ∧ numB (v.drop (spanL noSlash v + 1)) = true := by
  unfold rbareL at h
  split at h
  · rename_i hl
    rw [Bool.and_eq_true] at h
    exact ⟨hl, h.1, h.2⟩
  · rw [hw, hn] at h
    simp at h
theorem L_val (line : Nat) (v s : List UInt8) (hv : v.all isPrint = true) (hs : tailOk s) : R line (shownL v ++ s) = addT (valTok v line) (R line s) := by
  unfold valTok shownL
  cases hw : wordB v
  · cases hn : numB v
    · cases hb : rbareL v
      · rw [if_neg (by simp), if_neg (by simp), if_neg (by simp), if_neg (by simp)]
        have e : (quoteL v).1 = 34 :: escL v ++ [34] := by unfold quoteL; rw [if_pos hv]
        rw [e]
        exact L_str line v s hv
      · obtain ⟨h1, h2, h3⟩ := bare_kinds hb hw hn
        rw [if_pos rfl, if_neg (by simp), if_neg (by simp), if_pos rfl]
        conv => lhs; rw [slash_split h1]
        rw [List.append_assoc, List.cons_append, L_num line _ _ h2 (fun d t e => by injection e with e1 _; subst e1; rfl), L_mark line 47 _ rfl rfl rfl rfl, L_num line _ _ h3 hs, addT_add, addT_add]
        rfl
    · rw [show rbareL v = true by
        unfold rbareL
        rw [if_neg (span_noslash (digits_tails (numB_all hn).1)), hn, Bool.or_true], if_pos rfl, if_neg (by simp), if_pos rfl]
      exact L_num line v s hn hs
  · rw [show rbareL v = true by
      unfold rbareL
      rw [if_neg (span_noslash (wordB_all hw).1), hw, Bool.true_or], if_pos rfl, if_pos rfl]
    exact L_word line v s hw hs
theorem tail_cons {c : UInt8} {r : List UInt8} (h : isTail c = false) : tailOk (c :: r) := fun d t e => by injection e with e1 _; subst e1; exact h
/-- The tokens of the values behind the first one. -/
def comTok (vs : List (List UInt8)) (n : Nat) : List Tok := vs.flatMap fun v => (4, [44], n) :: valTok v n
theorem L_com (line : Nat) (s : List UInt8) (hs : tailOk s) : ∀ vs : List (List UInt8), vs.all (fun v => v.all isPrint) = true → R line (Lib.joinTail [44, 32] (vs.map shownL) ++ s) = addT (comTok vs line) (R line s) ∧ tailOk (Lib.joinTail [44, 32] (vs.map shownL) ++ s) := by
  intro vs
  induction vs with
  | nil => intro _; exact ⟨(addT_nil _).symm, hs⟩
  | cons v vs ih =>
    intro h
    rw [List.all_cons, Bool.and_eq_true] at h
    obtain ⟨i1, i2⟩ := ih h.2
    have e : Lib.joinTail [44, 32] ((v :: vs).map shownL) ++ s = 44 :: 32 :: (shownL v ++ (Lib.joinTail [44, 32] (vs.map shownL) ++ s)) := by
      simp [Lib.joinTail]
    rw [e]
    refine ⟨?_, tail_cons rfl⟩
    rw [L_mark line 44 _ rfl rfl rfl rfl, L_space, L_val line v _ h.1 i2, i1, addT_add, addT_add]
    congr 1
variable {α : Type}
/-- The tokens of a field. -/
def fldTok (f : FldA α) (n : Nat) : List Tok := (1, f.1, n) :: (match f.2.1 with
  | [] => []
  | v :: vs => valTok v n ++ comTok vs n) ++ [(4, [59], n)]
theorem L_field (line : Nat) (f : FldA α) (s : List UInt8) (hf : fieldOk f = true) : R line (fieldL f ++ s) = addT (fldTok f line) (R (line + 1) s) := by
  unfold fieldOk at hf
  simp only [Bool.and_eq_true] at hf
  obtain ⟨⟨h1, h2⟩, h3⟩ := hf
  unfold fieldL fldTok
  cases hv : f.2.1 with
  | nil => rw [hv] at h2; simp at h2
  | cons v vs =>
    rw [hv, List.all_cons, Bool.and_eq_true] at h3
    obtain ⟨i1, i2⟩ := L_com line (59 :: 10 :: s) (tail_cons rfl) vs h3.2
    rw [List.map_cons, Lib.join_cons]
    have e : [32, 32, 32, 32] ++ f.1 ++ [32] ++ (shownL v ++ Lib.joinTail [44, 32] (vs.map shownL)) ++ [59, 10] ++ s = 32 :: 32 :: 32 :: 32 :: (f.1 ++ (32 :: (shownL v ++ (Lib.joinTail [44, 32] (vs.map shownL) ++ 59 :: 10 :: s)))) := by simp
    rw [e, L_space, L_space, L_space, L_space, L_word line f.1 _ h1 (tail_cons rfl), L_space, L_val line v _ h3.1 i2, i1, L_mark line 59 _ rfl rfl rfl rfl, L_nl, addT_add, addT_add, addT_add]
    congr 1
def fsTok : List (FldA α) → Nat → List Tok
  | [], _ => []
  | f :: fs, n => fldTok f n ++ fsTok fs (n + 1)
theorem L_fields (s : List UInt8) : ∀ (fs : List (FldA α)) (line : Nat), fs.all fieldOk = true → R line (fs.flatMap fieldL ++ s) = addT (fsTok fs line) (R (line + fs.length) s) := by
  intro fs
  induction fs with
  | nil => intro line _; exact (addT_nil _).symm
  | cons f fs ih =>
    intro line h
    rw [List.all_cons, Bool.and_eq_true] at h
    rw [List.flatMap_cons, List.append_assoc, L_field line f _ h.1, ih _ h.2, addT_add, List.length_cons, show line + 1 + fs.length = line + (fs.length + 1) by omega]
    rfl
/-- The tokens of a block. -/
def blkTok (b : BlkA α) (n : Nat) : List Tok := (1, b.1, n) :: (if b.2.1.isEmpty then [] else [(1, b.2.1, n)]) ++ [(4, [123], n)] ++ fsTok b.2.2.1 (n + 1) ++ [(4, [125], n + 1 + b.2.2.1.length)]
theorem L_block (line : Nat) (b : BlkA α) (s : List UInt8) (hb : blockOk b = true) : R line (blockL b ++ s) = addT (blkTok b line) (R (line + 2 + b.2.2.1.length) s) := by
  unfold blockOk at hb
  simp only [Bool.and_eq_true] at hb
  obtain ⟨⟨h1, h2⟩, h3⟩ := hb
  unfold blockL headL blkTok
  have hr : R line (32 :: 123 :: 10 :: (b.2.2.1.flatMap fieldL ++ (32 :: 32 :: 125 :: 10 :: s))) = addT ([(4, [123], line)] ++ fsTok b.2.2.1 (line + 1) ++ [(4, [125], line + 1 + b.2.2.1.length)]) (R (line + 2 + b.2.2.1.length) s) := by
    rw [L_space, L_mark line 123 _ rfl rfl rfl rfl, L_nl, L_fields _ _ _ h3, L_space, L_space, L_mark _ 125 _ rfl rfl rfl rfl, L_nl, addT_add, addT_add, show line + 1 + b.2.2.1.length + 1 = line + 2 + b.2.2.1.length by omega]
  cases hn : b.2.1 with
  | nil =>
    have e : [32, 32] ++ b.1 ++ (if ([] : List UInt8).isEmpty then [] else 32 :: []) ++ [32, 123, 10] ++ b.2.2.1.flatMap fieldL ++ [32, 32, 125, 10] ++ s = 32 :: 32 :: (b.1 ++ (32 :: 123 :: 10 :: (b.2.2.1.flatMap fieldL ++ (32 :: 32 :: 125 :: 10 :: s)))) := by simp
    rw [e, L_space, L_space, L_word line b.1 _ h1 (tail_cons rfl), hr, addT_add]
    congr 1
  | cons c r =>
    rw [hn] at h2
    have h2 : wordB (c :: r) = true := by simpa using h2
    have e : [32, 32] ++ b.1 ++ (if (c :: r).isEmpty then [] else 32 :: (c :: r)) ++ [32, 123, 10] ++ b.2.2.1.flatMap fieldL ++ [32, 32, 125, 10] ++ s = 32 :: 32 :: (b.1 ++ (32 :: ((c :: r) ++ (32 :: 123 :: 10 :: (b.2.2.1.flatMap fieldL ++ (32 :: 32 :: 125 :: 10 :: s)))))) := by simp
    rw [e, L_space, L_space, L_word line b.1 _ h1 (tail_cons rfl), L_space, L_word line (c :: r) _ h2 (tail_cons rfl), hr, addT_add, addT_add]
    congr 1
def bsTok : List (BlkA α) → Nat → List Tok
  | [], _ => []
  | b :: bs, n => blkTok b n ++ bsTok bs (n + 2 + b.2.2.1.length)
/-- The line behind the blocks. -/
def endLine : List (BlkA α) → Nat → Nat
  | [], n => n
  | b :: bs, n => endLine bs (n + 2 + b.2.2.1.length)
theorem L_blocks (s : List UInt8) : ∀ (bs : List (BlkA α)) (line : Nat), bs.all blockOk = true → R line (bs.flatMap blockL ++ s) = addT (bsTok bs line) (R (endLine bs line) s) := by
  intro bs
  induction bs with
  | nil => intro line _; exact (addT_nil _).symm
  | cons b bs ih =>
    intro line h
    rw [List.all_cons, Bool.and_eq_true] at h
    rw [List.flatMap_cons, List.append_assoc, L_block line b _ h.1, ih _ h.2, addT_add]
    rfl
/-- The tokens of a definition, but for the last two. -/
def headTok (s : SrcA α) : List Tok := [(1, [101, 108, 101, 99, 116, 105, 111, 110], 1), (3, s.1, 1), (4, [123], 1)] ++ bsTok s.2 2
/-- The text of a definition, but for the last two bytes. -/
def cutL' (s : SrcA α) : List UInt8 := [101, 108, 101, 99, 116, 105, 111, 110, 32] ++ (quoteL s.1).1 ++ [32, 123, 10] ++ s.2.flatMap blockL
theorem srcL_cut (s : SrcA α) : srcL s = cutL' s ++ [125, 10] := rfl
theorem L_head (s : SrcA α) (r : List UInt8) (h : srcOk s = true) : R 1 (cutL' s ++ r) = addT (headTok s) (R (endLine s.2 2) r) := by
  unfold srcOk at h
  rw [Bool.and_eq_true] at h
  unfold cutL' headTok
  have e : (quoteL s.1).1 = 34 :: escL s.1 ++ [34] := by unfold quoteL; rw [if_pos h.1]
  have e2 : [101, 108, 101, 99, 116, 105, 111, 110, 32] ++ (quoteL s.1).1 ++ [32, 123, 10] ++ s.2.flatMap blockL ++ r = [101, 108, 101, 99, 116, 105, 111, 110] ++ (32 :: ((34 :: escL s.1 ++ [34]) ++ (32 :: 123 :: 10 :: (s.2.flatMap blockL ++ r)))) := by
    rw [e]; simp
  rw [e2, L_word 1 _ _ rfl (tail_cons rfl), L_space, L_str 1 s.1 _ h.1, L_space, L_mark 1 123 _ rfl rfl rfl rfl, L_nl, L_blocks r s.2 2 h.2, addT_add, addT_add, addT_add]
  congr 1
def srcTok (s : SrcA α) : List Tok := headTok s ++ [(4, [125], endLine s.2 2), (5, [], endLine s.2 2 + 1)]
theorem L_src (s : SrcA α) (h : srcOk s = true) : R 1 (srcL s) = .ok (srcTok s) := by
  rw [srcL_cut, L_head s _ h, L_mark _ 125 _ rfl rfl rfl rfl, L_nl, R_nil, addT_add]
  unfold srcTok
  show Except.ok _ = Except.ok _
  congr 1
  simp

end Go.Proofs.Ythdcgplocdehjaa

/- What the tokens of a printed definition are parsed as. -/
namespace Go.Proofs.Ythdcgplocdehjaa
open Go.RowKit Go.Proofs.Kit

section
variable {T : List Tok} {i : Nat} {k : Int} {x : List UInt8} {n : Nat} {r : List Tok}
theorem tk_drop {t : Tok} (h : T.drop i = t :: r) : tk T i = t ∧ i < T.length ∧ T.drop (i + 1) = r := by
  have hi : i < T.length := by
    by_cases hi : i < T.length
    · exact hi
    · rw [List.drop_of_length_le (by omega)] at h; simp at h
  have e : T[i] :: T.drop (i + 1) = t :: r := by rw [List.getElem_cons_drop]; exact h
  injection e with e1 e2
  refine ⟨?_, hi, e2⟩
  unfold tk
  rw [List.getD_eq_getElem?_getD, List.getElem?_eq_getElem hi]
  exact e1
theorem isP_at (h : T.drop i = (k, x, n) :: r) (kind : Int) (text : List UInt8) : isP T ⟨i, 0⟩ kind text = ((k == kind) && (text.isEmpty || (x == text))) := by
  unfold isP
  rw [(tk_drop h).1]
  simp
theorem P_not (h : T.drop i = (k, x, n) :: r) {kind : Int} (text : List UInt8) (hk : k ≠ kind) : isP T ⟨i, 0⟩ kind text = false := by
  rw [isP_at h, show (k == kind) = false by rw [beq_eq_false_iff_ne]; exact hk]; rfl
theorem P_text (h : T.drop i = (k, x, n) :: r) {text : List UInt8} (ht : text.isEmpty = false) (hx : (x == text) = false) (kind : Int) : isP T ⟨i, 0⟩ kind text = false := by
  rw [isP_at h, ht, hx]; simp
theorem P_yes (h : T.drop i = (k, x, n) :: r) {text : List UInt8} (ht : (text.isEmpty || (x == text)) = true) : isP T ⟨i, 0⟩ k text = true := by
  rw [isP_at h, ht]; simp
theorem P_take (h : T.drop i = (k, x, n) :: r) (h5 : k ≠ 5) {text : List UInt8} (ht : (text.isEmpty || (x == text)) = true) : takeT T ⟨i, 0⟩ k text = (k, x, n) ∧ takeS T ⟨i, 0⟩ k text = ⟨i + 1, 0⟩ ∧ needS T ⟨i, 0⟩ k text = ⟨i + 1, 0⟩ := by
  have hp := P_yes h ht
  have e : nextP ⟨i, 0⟩ k = ⟨i + 1, 0⟩ := by unfold nextP; rw [if_neg h5]
  refine ⟨by rw [takeT_yes hp]; exact (tk_drop h).1, by rw [takeS_yes hp, e], by rw [needS_yes hp, e]⟩
/-- A value: what follows it is no '/'. -/
theorem P_val {v : List UInt8} {c : List UInt8} {m : Nat} (hc : (c == [47]) = false) (hr : r = (4, c, m) :: r.tail) (h : T.drop i = valTok v n ++ r) : valT T ⟨i, 0⟩ = v ∧ ∃ j, valS T ⟨i, 0⟩ = ⟨j, 0⟩ ∧ T.drop j = r := by
  unfold valTok at h
  split at h
  · have hp := P_yes (text := []) h rfl
    obtain ⟨h1, h2, h3⟩ := P_take (text := []) h (by decide) rfl
    unfold valT valS
    rw [if_pos hp, if_pos hp, h2, (tk_drop h).1]
    exact ⟨rfl, _, rfl, (tk_drop h).2.2⟩
  · split at h
    · have hp1 := P_not (kind := 1) h [] (by decide)
      have hp3 := P_not (kind := 3) h [] (by decide)
      obtain ⟨h1, h2, h3⟩ := P_take (text := []) h (by decide) rfl
      have hd := (tk_drop h).2.2
      have hd2 : T.drop (i + 1) = (4, c, m) :: r.tail := by rw [← hr]; exact hd
      have hp4 := P_text (text := [47]) hd2 rfl hc 4
      unfold valT valS
      simp only [hp1, hp3, h3, hp4, h1, Bool.false_eq_true, if_false]
      exact ⟨by first | rfl | trivial, _, rfl, hd⟩
    · split at h
      · rename_i hw hn hb
        obtain ⟨b1, b2, b3⟩ := bare_kinds hb (by simpa using hw) (by simpa using hn)
        have hp1 := P_not (kind := 1) h [] (by decide)
        have hp3 := P_not (kind := 3) h [] (by decide)
        obtain ⟨h1, h2, h3⟩ := P_take (text := []) h (by decide) rfl
        have hd := (tk_drop h).2.2
        have hp4 := P_yes (text := [47]) hd rfl
        obtain ⟨g1, g2, g3⟩ := P_take (text := [47]) hd (by decide) rfl
        have hd2 := (tk_drop hd).2.2
        obtain ⟨k1, k2, k3⟩ := P_take (text := []) hd2 (by decide) rfl
        unfold valT valS
        simp only [hp1, hp3, h3, hp4, h1, g2, k1, k3, Bool.false_eq_true, if_false, if_true]
        exact ⟨(slash_split b1).symm, _, rfl, (tk_drop hd2).2.2⟩
      · have hp1 := P_not (kind := 1) h [] (by decide)
        have hp3 := P_yes (text := []) h rfl
        obtain ⟨h1, h2, h3⟩ := P_take (text := []) h (by decide) rfl
        unfold valT valS
        rw [if_neg (by rw [hp1]; simp), if_pos hp3, if_neg (by rw [hp1]; simp), if_pos hp3, h2, (tk_drop h).1]
        exact ⟨rfl, _, rfl, (tk_drop h).2.2⟩
end
section
variable {T : List Tok}
theorem P_com (n : Nat) (r : List Tok) : ∀ (vs : List (List UInt8)) (f i : Nat), vs.length ≤ f → T.drop i = comTok vs n ++ (4, [59], n) :: r → comT T f ⟨i, 0⟩ = vs ∧ ∃ j, comS T f ⟨i, 0⟩ = ⟨j, 0⟩ ∧ T.drop j = (4, [59], n) :: r := by
  intro vs
  induction vs with
  | nil =>
    intro f i _ h
    have hp := P_text (text := [44]) (k := 4) (x := [59]) (n := n) (r := r) (T := T) (i := i) h rfl rfl 4
    obtain ⟨e1, e2⟩ := comT_no (f := f) hp
    exact ⟨e1, i, e2, h⟩
  | cons v vs ih =>
    intro f i hf h
    obtain ⟨g, rfl⟩ : ∃ g, f = g + 1 := ⟨f - 1, by rw [List.length_cons] at hf; omega⟩
    have h0 : T.drop i = (4, [44], n) :: (valTok v n ++ (comTok vs n ++ (4, [59], n) :: r)) := by rw [h]; unfold comTok; simp
    have hp := P_yes (text := [44]) h0 rfl
    obtain ⟨h1, h2, h3⟩ := P_take (text := [44]) h0 (by decide) rfl
    obtain ⟨e1, e2⟩ := comT_yes (f := g) hp
    have hv : ∃ c m, (c == [47]) = false ∧ comTok vs n ++ (4, [59], n) :: r = (4, c, m) :: (comTok vs n ++ (4, [59], n) :: r).tail := by
      cases vs with
      | nil => exact ⟨[59], n, rfl, rfl⟩
      | cons y ys => exact ⟨[44], n, rfl, rfl⟩
    obtain ⟨c, m, hc, hr⟩ := hv
    obtain ⟨v1, j, v2, v3⟩ := P_val hc hr (tk_drop h0).2.2
    rw [h2, v1, v2] at e1
    rw [h2, v2] at e2
    obtain ⟨i1, j2, i2, i3⟩ := ih g j (by rw [List.length_cons] at hf; omega) v3
    rw [i1] at e1
    exact ⟨e1, j2, by rw [e2, i2], i3⟩
variable {α : Type}
theorem comTok_len (n : Nat) : ∀ vs : List (List UInt8), vs.length ≤ (comTok vs n).length := by
  intro vs
  induction vs with
  | nil => exact Nat.le_refl _
  | cons v vs ih =>
    have e : comTok (v :: vs) n = (4, [44], n) :: (valTok v n ++ comTok vs n) := by unfold comTok; simp
    rw [e, List.length_cons, List.length_cons, List.length_append]
    omega
theorem drop_len {i : Nat} {l : List Tok} (h : T.drop i = l) : l.length ≤ T.length := by rw [← h, List.length_drop]; omega
theorem P_fld (n : Nat) (r : List Tok) (f : FldA α) (i : Nat) (hf : fieldOk f = true) (h : T.drop i = fldTok f n ++ r) : fldT T ⟨i, 0⟩ = (f.1, f.2.1, n) ∧ ∃ j, fldS T ⟨i, 0⟩ = ⟨j, 0⟩ ∧ T.drop j = r ∧ isP T ⟨i, 0⟩ 1 [] = true := by
  unfold fieldOk at hf
  simp only [Bool.and_eq_true] at hf
  cases hv : f.2.1 with
  | nil => rw [hv] at hf; simp at hf
  | cons v vs =>
    have h0 : T.drop i = (1, f.1, n) :: (valTok v n ++ (comTok vs n ++ (4, [59], n) :: r)) := by rw [h]; unfold fldTok; rw [hv]; simp
    obtain ⟨h1, h2, h3⟩ := P_take (text := []) h0 (by decide) rfl
    have hd := (tk_drop h0).2.2
    have hv2 : ∃ c m, (c == [47]) = false ∧ comTok vs n ++ (4, [59], n) :: r = (4, c, m) :: (comTok vs n ++ (4, [59], n) :: r).tail := by
      cases vs with
      | nil => exact ⟨[59], n, rfl, rfl⟩
      | cons y ys => exact ⟨[44], n, rfl, rfl⟩
    obtain ⟨c, m, hc, hr⟩ := hv2
    obtain ⟨v1, j, v2, v3⟩ := P_val hc hr hd
    have hlen : vs.length ≤ T.length := by
      have h4 := drop_len v3
      have h5 := comTok_len n vs
      rw [List.length_append] at h4
      omega
    obtain ⟨c1, j2, c2, c3⟩ := P_com n r vs T.length j hlen v3
    obtain ⟨g1, g2, g3⟩ := P_take (text := [59]) c3 (by decide) rfl
    unfold fldT fldS
    rw [h3, v1, v2, c1, c2, h1, g3]
    exact ⟨rfl, _, rfl, (tk_drop c3).2.2, P_yes h0 rfl⟩
/-- Fields, their lines laid. -/
def relF : List (FldA α) → Nat → List Fld
  | [], _ => []
  | f :: fs, n => (f.1, f.2.1, n) :: relF fs (n + 1)
theorem P_fs (m : Nat) (r : List Tok) : ∀ (fs : List (FldA α)) (f i n : Nat), fs.length ≤ f → fs.all fieldOk = true → T.drop i = fsTok fs n ++ (4, [125], m) :: r → fsT T f ⟨i, 0⟩ = relF fs n ∧ ∃ j, fsS T f ⟨i, 0⟩ = ⟨j, 0⟩ ∧ T.drop j = (4, [125], m) :: r := by
  intro fs
  induction fs with
  | nil =>
    intro f i n _ _ h
    have hp := P_not (kind := 1) (k := 4) (x := [125]) (n := m) (r := r) (T := T) (i := i) h [] (by decide)
    obtain ⟨e1, e2⟩ := fsT_no (f := f) hp
    exact ⟨e1, i, e2, h⟩
  | cons g fs ih =>
    intro f i n hf ha h
    obtain ⟨f', rfl⟩ : ∃ g, f = g + 1 := ⟨f - 1, by rw [List.length_cons] at hf; omega⟩
    rw [List.all_cons, Bool.and_eq_true] at ha
    have h0 : T.drop i = fldTok g n ++ (fsTok fs (n + 1) ++ (4, [125], m) :: r) := by rw [h]; show (fldTok g n ++ fsTok fs (n + 1)) ++ _ = _; simp
    obtain ⟨a1, j, a2, a3, a4⟩ := P_fld n _ g i ha.1 h0
    obtain ⟨e1, e2⟩ := fsT_yes (f := f') a4
    obtain ⟨i1, j2, i2, i3⟩ := ih f' j (n + 1) (by rw [List.length_cons] at hf; omega) ha.2 a3
    rw [a1, a2, i1] at e1
    rw [a2, i2] at e2
    exact ⟨e1, j2, e2, i3⟩
theorem fldTok_pos (f : FldA α) (n : Nat) : 1 ≤ (fldTok f n).length := by unfold fldTok; rw [List.cons_append, List.length_cons]; omega
theorem fsTok_len : ∀ (fs : List (FldA α)) (n : Nat), fs.length ≤ (fsTok fs n).length := by
  intro fs
  induction fs with
  | nil => intro n; exact Nat.le_refl _
  | cons f fs ih =>
    intro n
    show _ ≤ (fldTok f n ++ fsTok fs (n + 1)).length
    have := fldTok_pos f n
    have := ih (n + 1)
    rw [List.length_cons, List.length_append]
    omega
def relB : List (BlkA α) → Nat → List BlkP
  | [], _ => []
  | b :: bs, n => (b.1, b.2.1, relF b.2.2.1 (n + 1), n) :: relB bs (n + 2 + b.2.2.1.length)
theorem P_blk (n : Nat) (r : List Tok) (b : BlkA α) (i : Nat) (hb : blockOk b = true) (h : T.drop i = blkTok b n ++ r) : blkT T ⟨i, 0⟩ = (b.1, b.2.1, relF b.2.2.1 (n + 1), n) ∧ ∃ j, blkS T ⟨i, 0⟩ = ⟨j, 0⟩ ∧ T.drop j = r ∧ isP T ⟨i, 0⟩ 1 [] = true := by
  unfold blockOk at hb
  simp only [Bool.and_eq_true] at hb
  obtain ⟨m, hm⟩ : ∃ m, n + 1 + b.2.2.1.length = m := ⟨_, rfl⟩
  have h0 : T.drop i = (1, b.1, n) :: ((if b.2.1.isEmpty then [] else [(1, b.2.1, n)]) ++ ((4, [123], n) :: (fsTok b.2.2.1 (n + 1) ++ (4, [125], m) :: r))) := by rw [h]; unfold blkTok; rw [hm]; simp
  obtain ⟨h1, h2, h3⟩ := P_take (text := []) h0 (by decide) rfl
  have hd := (tk_drop h0).2.2
  have key : ∃ j, takeS T ⟨i + 1, 0⟩ 1 [] = ⟨j, 0⟩ ∧ (takeT T ⟨i + 1, 0⟩ 1 []).2.1 = b.2.1 ∧ T.drop j = (4, [123], n) :: (fsTok b.2.2.1 (n + 1) ++ (4, [125], m) :: r) := by
    cases hn : b.2.1 with
    | nil =>
      rw [hn] at hd
      have hd : T.drop (i + 1) = (4, [123], n) :: (fsTok b.2.2.1 (n + 1) ++ (4, [125], m) :: r) := hd
      have hp := P_not (kind := 1) hd [] (by decide)
      exact ⟨_, takeS_no hp, by rw [takeT_no hp]; rfl, hd⟩
    | cons c t =>
      rw [hn] at hd
      have hd : T.drop (i + 1) = (1, c :: t, n) :: ((4, [123], n) :: (fsTok b.2.2.1 (n + 1) ++ (4, [125], m) :: r)) := hd
      obtain ⟨g1, g2, g3⟩ := P_take (text := []) hd (by decide) rfl
      exact ⟨_, g2, by rw [g1], (tk_drop hd).2.2⟩
  obtain ⟨j, k1, k2, k3⟩ := key
  obtain ⟨g1, g2, g3⟩ := P_take (text := [123]) k3 (by decide) rfl
  have hd3 := (tk_drop k3).2.2
  have hlen : b.2.2.1.length ≤ T.length := by
    have h4 := drop_len hd3
    have h5 := fsTok_len b.2.2.1 (n + 1)
    rw [List.length_append] at h4
    omega
  obtain ⟨f1, j2, f2, f3⟩ := P_fs m r b.2.2.1 T.length (j + 1) (n + 1) hlen hb.2 hd3
  obtain ⟨q1, q2, q3⟩ := P_take (text := [125]) f3 (by decide) rfl
  unfold blkT blkS blk3
  rw [h3, k1, k2, g3, f1, f2, h1, q3]
  exact ⟨rfl, _, rfl, (tk_drop f3).2.2, P_yes h0 rfl⟩
theorem P_bs (m : Nat) (r : List Tok) : ∀ (bs : List (BlkA α)) (f i n : Nat), bs.length ≤ f → bs.all blockOk = true → T.drop i = bsTok bs n ++ (4, [125], m) :: r → bsT T f ⟨i, 0⟩ = relB bs n ∧ ∃ j, bsS T f ⟨i, 0⟩ = ⟨j, 0⟩ ∧ T.drop j = (4, [125], m) :: r := by
  intro bs
  induction bs with
  | nil =>
    intro f i n _ _ h
    have hp := P_not (kind := 1) (k := 4) (x := [125]) (n := m) (r := r) (T := T) (i := i) h [] (by decide)
    obtain ⟨e1, e2⟩ := bsT_no (f := f) hp
    exact ⟨e1, i, e2, h⟩
  | cons g bs ih =>
    intro f i n hf ha h
    obtain ⟨f', rfl⟩ : ∃ g, f = g + 1 := ⟨f - 1, by rw [List.length_cons] at hf; omega⟩
    rw [List.all_cons, Bool.and_eq_true] at ha
    have h0 : T.drop i = blkTok g n ++ (bsTok bs (n + 2 + g.2.2.1.length) ++ (4, [125], m) :: r) := by rw [h]; show (blkTok g n ++ bsTok bs _) ++ _ = _; simp
    obtain ⟨a1, j, a2, a3, a4⟩ := P_blk n _ g i ha.1 h0
    obtain ⟨e1, e2⟩ := bsT_yes (f := f') a4
    obtain ⟨i1, j2, i2, i3⟩ := ih f' j _ (by rw [List.length_cons] at hf; omega) ha.2 a3
    rw [a1, a2, i1] at e1
    rw [a2, i2] at e2
    exact ⟨e1, j2, e2, i3⟩
theorem bsTok_len : ∀ (bs : List (BlkA α)) (n : Nat), bs.length ≤ (bsTok bs n).length := by
  intro bs
  induction bs with
  | nil => intro n; exact Nat.le_refl _
  | cons f bs ih =>
    intro n
    show _ ≤ (blkTok f n ++ bsTok bs _).length
    have h1 : 1 ≤ (blkTok f n).length := by unfold blkTok; simp
    have := ih (n + 2 + f.2.2.1.length)
    rw [List.length_cons, List.length_append]
    omega
/-- A definition, its lines those of the layout. -/
def reline (s : SrcA α) : Src := (s.1, relB s.2 2)
theorem P_src (s : SrcA α) (h : srcOk s = true) : srcT (srcTok s) = reline s ∧ (srcS (srcTok s)).f = 0 ∧ (srcS (srcTok s)).i + 1 = (srcTok s).length := by
  unfold srcOk at h
  rw [Bool.and_eq_true] at h
  obtain ⟨m, hm⟩ : ∃ m, endLine s.2 2 = m := ⟨_, rfl⟩
  have h0 : (srcTok s).drop 0 = (1, elW, 1) :: (3, s.1, 1) :: (4, [123], 1) :: (bsTok s.2 2 ++ (4, [125], m) :: [(5, [], m + 1)]) := by
    rw [List.drop_zero]
    unfold srcTok headTok
    rw [hm]
    simp [elW]
  generalize srcTok s = T at h0
  obtain ⟨a1, a2, a3⟩ := P_take (text := elW) h0 (by decide) (by simp)
  have d1 := (tk_drop h0).2.2
  obtain ⟨b1, b2, b3⟩ := P_take (text := []) d1 (by decide) rfl
  have d2 := (tk_drop d1).2.2
  obtain ⟨c1, c2, c3⟩ := P_take (text := [123]) d2 (by decide) rfl
  have d3 := (tk_drop d2).2.2
  have hlen : s.2.length ≤ T.length := by
    have h4 := drop_len d3
    have h5 := bsTok_len s.2 2
    rw [List.length_append] at h4
    omega
  obtain ⟨f1, j, f2, f3⟩ := P_bs m [(5, [], m + 1)] s.2 T.length 3 2 hlen h.2 d3
  obtain ⟨q1, q2, q3⟩ := P_take (text := [125]) f3 (by decide) rfl
  have d4 := (tk_drop f3).2.2
  have hp := P_yes (text := []) d4 rfl
  have e5 : needS T ⟨j + 1, 0⟩ 5 [] = ⟨j + 1, 0⟩ := by rw [needS_yes hp]; rfl
  unfold srcT srcS srcC srcA
  rw [a3, b3, c3, f1, f2, b1, q3, e5]
  refine ⟨rfl, rfl, ?_⟩
  have hl : (T.drop (j + 1)).length = 1 := by rw [d4]; rfl
  rw [List.length_drop] at hl
  show j + 1 + 1 = T.length
  omega
end

end Go.Proofs.Ythdcgplocdehjaa

/- What is parsed off a text can be printed, and is no great text. -/
namespace Go.Proofs.Ythdcgplocdehjaa
open Go.RowKit Go.Proofs.Kit

/-- What a token's text is. -/
def TP (t : Tok) : Prop := (t.1 = 1 → wordB t.2.1 = true) ∧ (t.1 = 2 → numB t.2.1 = true) ∧ (t.1 = 3 → t.2.1.all isPrint = true)
theorem tp1 {t : List UInt8} {n : Nat} (h : wordB t = true) : TP (1, t, n) := ⟨fun _ => h, fun e => absurd (show (1 : Int) = 2 from e) (by decide), fun e => absurd (show (1 : Int) = 3 from e) (by decide)⟩
theorem tp2 {t : List UInt8} {n : Nat} (h : numB t = true) : TP (2, t, n) := ⟨fun e => absurd (show (2 : Int) = 1 from e) (by decide), fun _ => h, fun e => absurd (show (2 : Int) = 3 from e) (by decide)⟩
theorem tp3 {t : List UInt8} {n : Nat} (h : t.all isPrint = true) : TP (3, t, n) := ⟨fun e => absurd (show (3 : Int) = 1 from e) (by decide), fun e => absurd (show (3 : Int) = 2 from e) (by decide), fun _ => h⟩
theorem tp0 {k : Int} {t : List UInt8} {n : Nat} (h1 : k ≠ 1) (h2 : k ≠ 2) (h3 : k ≠ 3) : TP (k, t, n) := ⟨fun e => absurd e h1, fun e => absurd e h2, fun e => absurd e h3⟩
theorem strL_print : ∀ (m : Nat) (l t : List UInt8) (n : Nat), l.length ≤ m → strL l = some (t, n) → t.all isPrint = true ∧ t.length ≤ n := by
  intro m
  induction m with
  | zero => intro l t n hl h; cases l with
    | nil => simp [strL] at h
    | cons a r => simp at hl
  | succ m ih =>
    intro l t n hl h
    cases l with
    | nil => simp [strL] at h
    | cons c r =>
      unfold strL at h
      split at h
      · simp at h; rw [h.1]; simp
      · split at h
        · cases r with
          | nil => simp at h
          | cons d r' =>
            simp only [] at h
            split at h
            · rename_i hq
              cases hs : strL r' with
              | none => rw [hs] at h; simp at h
              | some x =>
                rw [hs] at h; simp at h
                obtain ⟨i1, i2⟩ := ih r' x.1 x.2 (by simp at hl; omega) hs
                rw [← h.1, ← h.2, List.all_cons, i1, List.length_cons]
                have : isPrint d = true := by
                  simp only [Bool.or_eq_true, beq_iff_eq] at hq
                  unfold isPrint
                  simp only [Bool.and_eq_true, decide_eq_true_eq]
                  omega
                rw [this]
                exact ⟨rfl, by omega⟩
            · simp at h
        · split at h
          · rename_i hp
            cases hs : strL r with
            | none => rw [hs] at h; simp at h
            | some x =>
              rw [hs] at h; simp at h
              obtain ⟨i1, i2⟩ := ih r x.1 x.2 (by simp at hl; omega) hs
              rw [← h.1, ← h.2, List.all_cons, i1, hp, List.length_cons]
              exact ⟨rfl, by omega⟩
          · simp at h
theorem oneL_tp {l t : List UInt8} {k : Int} {n line : Nat} (h : oneL l = some (k, t, n)) : TP (k, t, line) ∧ t.length ≤ n := by
  unfold oneL at h
  split at h
  · rename_i hw
    simp at h
    obtain ⟨rfl, rfl, rfl⟩ := h
    exact ⟨tp1 hw, by rw [List.length_take]; omega⟩
  · split at h
    · rename_i hw
      simp at h
      obtain ⟨rfl, rfl, rfl⟩ := h
      exact ⟨tp2 hw, by rw [List.length_take]; omega⟩
    · split at h
      · simp at h
      · split at h
        · simp at h
          obtain ⟨rfl, rfl, rfl⟩ := h
          exact ⟨tp0 (by decide) (by decide) (by decide), by simp⟩
        · split at h
          · rename_i c r _ _ _ _
            cases hs : strL r with
            | none => rw [hs] at h; simp at h
            | some x =>
              rw [hs] at h; simp at h
              obtain ⟨rfl, rfl, rfl⟩ := h
              obtain ⟨i1, i2⟩ := strL_print _ r x.1 x.2 (Nat.le_refl _) hs
              exact ⟨tp3 i1, by omega⟩
          · simp at h
def sumL (T : List Tok) : Nat := (T.map fun t => t.2.1.length).sum
theorem refL_tp : ∀ (f line : Nat) (l : List UInt8) (T : List Tok), refL f line l = .ok T → (∀ t ∈ T, TP t) ∧ sumL T ≤ l.length := by
  intro f
  induction f with
  | zero => intro line l T h; simp [refL] at h
  | succ f ih =>
    intro line l T h
    cases l with
    | nil =>
      simp [refL] at h
      rw [← h]
      refine ⟨fun t ht => ?_, by simp [sumL]⟩
      rw [List.mem_singleton] at ht
      subst ht
      exact tp0 (by decide) (by decide) (by decide)
    | cons c r =>
      rw [refL] at h
      split at h
      · obtain ⟨h1, h2⟩ := ih _ _ _ h
        exact ⟨h1, by rw [List.length_drop] at h2; omega⟩
      · split at h
        · obtain ⟨h1, h2⟩ := ih _ _ _ h
          exact ⟨h1, by rw [List.length_cons]; omega⟩
        · cases ho : oneL (c :: r) with
          | none => rw [ho] at h; simp at h
          | some x =>
            obtain ⟨k, t, n⟩ := x
            rw [ho] at h
            simp only [] at h
            have hl := oneL_len ho
            cases hr : refL f line ((c :: r).drop n) with
            | error e => rw [hr] at h; simp [Except.map] at h
            | ok S =>
              rw [hr] at h
              have h : (k, t, line) :: S = T := by simpa [Except.map] using h
              obtain ⟨h1, h2⟩ := ih _ _ _ hr
              obtain ⟨o1, o2⟩ := oneL_tp (line := line) ho
              rw [← h]
              refine ⟨fun y hy => ?_, ?_⟩
              · rcases List.mem_cons.1 hy with rfl | hy
                · exact o1
                · exact h1 y hy
              · have e : sumL ((k, t, line) :: S) = t.length + sumL S := by simp [sumL]
                rw [e]
                rw [List.length_drop] at h2
                omega
section
variable {T : List Tok}
theorem tk_tp (h : ∀ t ∈ T, TP t) (i : Nat) : TP (tk T i) := by
  unfold tk
  rw [List.getD_eq_getElem?_getD]
  cases hi : T[i]? with
  | none => exact tp0 (k := 0) (by decide) (by decide) (by decide)
  | some t => exact h t (List.mem_of_getElem? hi)
theorem valT_print (h : ∀ t ∈ T, TP t) (s : St) : (valT T s).all isPrint = true := by
  have num : ∀ s : St, (takeT T s 2 []).2.1.all isPrint = true := fun s => by
    unfold takeT
    split
    · rename_i hp
      have h1 := (numB_all ((tk_tp h s.i).2.1 (isP_kind hp).2)).1
      rw [List.all_eq_true] at *
      exact fun c hc => tail_print (digit_tail (h1 c hc))
    · rfl
  unfold valT
  split
  · rename_i hp
    have h1 := (wordB_all ((tk_tp h s.i).1 (isP_kind hp).2)).1
    rw [List.all_eq_true] at *
    exact fun c hc => tail_print (h1 c hc)
  · split
    · rename_i hp
      exact (tk_tp h s.i).2.2 (isP_kind hp).2
    · split
      · rw [List.all_append, List.all_cons, num, num]; rfl
      · exact num s
theorem comT_print (h : ∀ t ∈ T, TP t) : ∀ (f : Nat) (s : St), (comT T f s).all (fun v => v.all isPrint) = true := by
  intro f
  induction f with
  | zero => intro s; rfl
  | succ f ih =>
    intro s
    unfold comT
    split
    · rw [List.all_cons, valT_print h, ih]; rfl
    · rfl
theorem fldT_ok (h : ∀ t ∈ T, TP t) {s : St} (hp : isP T s 1 [] = true) : fieldOk (fldT T s) = true := by
  unfold fieldOk fldT
  rw [takeT_yes hp, (tk_tp h s.i).1 (isP_kind hp).2]
  simp only [List.all_cons, valT_print h, comT_print h]
  rfl
theorem fsT_ok (h : ∀ t ∈ T, TP t) : ∀ (f : Nat) (s : St), (fsT T f s).all fieldOk = true := by
  intro f
  induction f with
  | zero => intro s; rfl
  | succ f ih =>
    intro s
    unfold fsT
    split
    · rename_i hp
      rw [List.all_cons, fldT_ok h hp, ih]; rfl
    · rfl
theorem blkT_ok (h : ∀ t ∈ T, TP t) {s : St} (hp : isP T s 1 [] = true) : blockOk (blkT T s) = true := by
  unfold blockOk blkT
  rw [takeT_yes hp, (tk_tp h s.i).1 (isP_kind hp).2, fsT_ok h]
  have : ((takeT T (needS T s 1 []) 1 []).2.1.isEmpty || wordB (takeT T (needS T s 1 []) 1 []).2.1) = true := by
    unfold takeT
    split
    · rename_i hq
      rw [(tk_tp h _).1 (isP_kind hq).2, Bool.or_true]
    · rfl
  rw [this]; rfl
theorem bsT_ok (h : ∀ t ∈ T, TP t) : ∀ (f : Nat) (s : St), (bsT T f s).all blockOk = true := by
  intro f
  induction f with
  | zero => intro s; rfl
  | succ f ih =>
    intro s
    unfold bsT
    split
    · rename_i hp
      rw [List.all_cons, blkT_ok h hp, ih]; rfl
    · rfl
theorem srcT_ok (h : ∀ t ∈ T, TP t) : srcOk (srcT T) = true := by
  unfold srcOk srcT
  rw [bsT_ok h, Bool.and_true]
  unfold takeT
  split
  · rename_i hp
    exact (tk_tp h _).2.2 (isP_kind hp).2
  · rfl

/-- What the tokens ahead of the i-th weigh. -/
def wt (T : List Tok) : Nat → Nat
  | 0 => 0
  | i + 1 => wt T i + 2 * (tk T i).2.1.length + 12
theorem wt_mono {i j : Nat} (h : i ≤ j) : wt T i ≤ wt T j := by
  induction j with
  | zero => rw [show i = 0 by omega]; exact Nat.le_refl _
  | succ j ih =>
    by_cases hi : i = j + 1
    · rw [hi]; exact Nat.le_refl _
    · have := ih (by omega)
      show _ ≤ wt T j + 2 * (tk T j).2.1.length + 12
      omega
theorem needS_ok {s : St} {kind : Int} {text : List UInt8} (h : (needS T s kind text).f = 0) (hT : TOk T) (hi : s.i < T.length) : isP T s kind text = true := by
  cases hp : isP T s kind text
  · rw [needS_no hp] at h
    exact absurd h (failP_f hT hi)
  · rfl
theorem takeS_wt {s : St} {kind : Int} {text : List UInt8} (hp : isP T s kind text = true) (h5 : kind ≠ 5) : wt T (takeS T s kind text).i = wt T s.i + 2 * (tk T s.i).2.1.length + 12 ∧ wt T (needS T s kind text).i = wt T s.i + 2 * (tk T s.i).2.1.length + 12 ∧ (takeT T s kind text) = tk T s.i := by
  have e : nextP s kind = ⟨s.i + 1, s.f⟩ := by unfold nextP; rw [if_neg h5]
  rw [takeS_yes hp, needS_yes hp, e, takeT_yes hp]
  exact ⟨rfl, rfl, rfl⟩
theorem val_wt (hT : TOk T) {s : St} (hi : s.i < T.length) (h : (valS T s).f = 0) : (shownL (valT T s)).length + wt T s.i + 10 ≤ wt T (valS T s).i := by
  have hs := shownL_len (valT T s)
  revert hs h
  unfold valT valS
  split
  · rename_i hp
    intro h hs
    obtain ⟨e1, e2, e3⟩ := takeS_wt hp (by decide)
    rw [e1]; omega
  · split
    · rename_i hp
      intro h hs
      obtain ⟨e1, e2, e3⟩ := takeS_wt hp (by decide)
      rw [e1]; omega
    · split
      · rename_i hp4
        intro h hs
        have hf1 : (needS T s 2 []).f = 0 := (isP_kind hp4).1
        have hp2 := needS_ok hf1 hT hi
        obtain ⟨e1, e2, e3⟩ := takeS_wt hp2 (by decide)
        obtain ⟨g1, g2, g3⟩ := takeS_wt hp4 (by decide)
        have hp5 := needS_ok h hT (in_takeS hT (in_needS hT hi))
        obtain ⟨k1, k2, k3⟩ := takeS_wt hp5 (by decide)
        rw [k2, g1, e2]
        rw [e3, k3, List.length_append, List.length_cons] at hs
        rw [e3, k3]
        omega
      · intro h hs
        have hp2 := needS_ok h hT hi
        obtain ⟨e1, e2, e3⟩ := takeS_wt hp2 (by decide)
        rw [e2]
        rw [e3] at hs ⊢
        omega
theorem comS_f {f : Nat} {s : St} (h : (comS T f s).f = 0) : s.f = 0 := by
  by_cases hs : s.f = 0
  · exact hs
  · rw [comS_bad hs] at h; exact absurd h hs
theorem fsS_f {f : Nat} {s : St} (h : (fsS T f s).f = 0) : s.f = 0 := by
  by_cases hs : s.f = 0
  · exact hs
  · rw [fsS_bad hs] at h; exact absurd h hs
theorem bsS_f {f : Nat} {s : St} (h : (bsS T f s).f = 0) : s.f = 0 := by
  by_cases hs : s.f = 0
  · exact hs
  · rw [bsS_bad hs] at h; exact absurd h hs
theorem needS_f {s : St} {kind : Int} {text : List UInt8} (h : (needS T s kind text).f = 0) : s.f = 0 := by
  by_cases hs : s.f = 0
  · exact hs
  · rw [needS_bad hs] at h; exact absurd h hs
theorem valS_f {s : St} (h : (valS T s).f = 0) : s.f = 0 := by
  by_cases hs : s.f = 0
  · exact hs
  · rw [valS_bad hs] at h; exact absurd h hs
theorem com_wt (hT : TOk T) : ∀ (f : Nat) (s : St), s.i < T.length → (comS T f s).f = 0 → (Lib.joinTail [44, 32] ((comT T f s).map shownL)).length + wt T s.i ≤ wt T (comS T f s).i := by
  intro f
  induction f with
  | zero => intro s _ _; simp [comT, comS, Lib.joinTail]
  | succ f ih =>
    intro s hi h
    cases hp : isP T s 4 [44]
    · obtain ⟨e1, e2⟩ := comT_no (f := f + 1) hp
      rw [e1, e2]
      simp [Lib.joinTail]
    · obtain ⟨e1, e2⟩ := comT_yes (f := f) hp
      rw [e2] at h
      have hv := val_wt hT (in_takeS hT hi) (comS_f h)
      have i1 := ih _ (in_valS hT (in_takeS hT hi)) h
      obtain ⟨g1, g2, g3⟩ := takeS_wt hp (by decide)
      rw [e1, e2]
      have e : Lib.joinTail [44, 32] ((valT T (takeS T s 4 [44]) :: comT T f (valS T (takeS T s 4 [44]))).map shownL) = [44, 32] ++ shownL (valT T (takeS T s 4 [44])) ++ Lib.joinTail [44, 32] ((comT T f (valS T (takeS T s 4 [44]))).map shownL) := by simp [Lib.joinTail]
      rw [e]
      simp only [List.length_append, List.length_cons, List.length_nil]
      omega
theorem fld_wt (hT : TOk T) {s : St} (hi : s.i < T.length) (h : (fldS T s).f = 0) : (fieldL (fldT T s)).length + wt T s.i ≤ wt T (fldS T s).i := by
  unfold fldS at h ⊢
  have h1 := needS_f h
  have h2 := comS_f h1
  have h3 := valS_f h2
  have hp := needS_ok h3 hT hi
  have i1 := in_needS (kind := 1) (text := []) hT hi
  have i2 := in_valS hT i1
  have i3 := in_comS hT T.length _ i2
  have hq := needS_ok h hT i3
  obtain ⟨a1, a2, a3⟩ := takeS_wt hp (by decide)
  obtain ⟨b1, b2, b3⟩ := takeS_wt hq (by decide)
  have v := val_wt hT i1 h2
  have c := com_wt hT T.length _ i2 h1
  unfold fieldL fldT
  simp only [List.map_cons, Lib.join_cons, List.length_append, List.length_cons, List.length_nil, a3]
  rw [b2]
  omega
theorem fs_wt (hT : TOk T) : ∀ (f : Nat) (s : St), s.i < T.length → (fsS T f s).f = 0 → ((fsT T f s).flatMap fieldL).length + wt T s.i ≤ wt T (fsS T f s).i := by
  intro f
  induction f with
  | zero => intro s _ _; simp [fsT, fsS]
  | succ f ih =>
    intro s hi h
    cases hp : isP T s 1 []
    · obtain ⟨e1, e2⟩ := fsT_no (f := f + 1) hp
      rw [e1, e2]
      simp
    · obtain ⟨e1, e2⟩ := fsT_yes (f := f) hp
      rw [e2] at h
      have hv := fld_wt hT hi (fsS_f h)
      have i1 := ih _ (in_fldS hT hi) h
      rw [e1, e2, List.flatMap_cons, List.length_append]
      omega
theorem blk_wt (hT : TOk T) {s : St} (hi : s.i < T.length) (h : (blkS T s).f = 0) : (blockL (blkT T s)).length + wt T s.i ≤ wt T (blkS T s).i := by
  unfold blkS at h ⊢
  have h1 := needS_f h
  have h2 := fsS_f h1
  unfold blk3 at h2
  have h3 := needS_f h2
  have h4 : (needS T s 1 []).f = 0 := by
    by_cases hs : (needS T s 1 []).f = 0
    · exact hs
    · rw [takeS_bad hs] at h3; exact absurd h3 hs
  have hp := needS_ok h4 hT hi
  have i1 := in_needS (kind := 1) (text := []) hT hi
  have i2 := in_takeS (kind := 1) (text := []) hT i1
  have hq := needS_ok h2 hT i2
  have i4 := in_blk3 hT hi
  have i5 := in_fsS hT T.length _ i4
  have hr := needS_ok h hT i5
  obtain ⟨a1, a2, a3⟩ := takeS_wt hp (by decide)
  obtain ⟨b1, b2, b3⟩ := takeS_wt hq (by decide)
  obtain ⟨c1, c2, c3⟩ := takeS_wt hr (by decide)
  have v := fs_wt hT T.length _ i4 h1
  have hb3 : wt T (blk3 T s).i = wt T (takeS T (needS T s 1 []) 1 []).i + 2 * (tk T (takeS T (needS T s 1 []) 1 []).i).2.1.length + 12 := b2
  have hname : (if (takeT T (needS T s 1 []) 1 []).2.1.isEmpty then ([] : List UInt8) else 32 :: (takeT T (needS T s 1 []) 1 []).2.1).length + wt T (needS T s 1 []).i ≤ wt T (takeS T (needS T s 1 []) 1 []).i := by
    cases hn : isP T (needS T s 1 []) 1 []
    · rw [takeT_no hn, takeS_no hn]
      simp [tok0]
    · obtain ⟨d1, d2, d3⟩ := takeS_wt hn (by decide)
      rw [d1, d3]
      split <;> simp <;> omega
  unfold blockL headL blkT
  simp only [List.length_append, List.length_cons, List.length_nil, a3]
  rw [c2]
  omega
theorem bs_wt (hT : TOk T) : ∀ (f : Nat) (s : St), s.i < T.length → (bsS T f s).f = 0 → ((bsT T f s).flatMap blockL).length + wt T s.i ≤ wt T (bsS T f s).i := by
  intro f
  induction f with
  | zero => intro s _ _; simp [bsT, bsS]
  | succ f ih =>
    intro s hi h
    cases hp : isP T s 1 []
    · obtain ⟨e1, e2⟩ := bsT_no (f := f + 1) hp
      rw [e1, e2]
      simp
    · obtain ⟨e1, e2⟩ := bsT_yes (f := f) hp
      rw [e2] at h
      have hv := blk_wt hT hi (bsS_f h)
      have i1 := ih _ (in_blkS hT hi) h
      rw [e1, e2, List.flatMap_cons, List.length_append]
      omega
theorem in_bsS (hT : TOk T) : ∀ (f : Nat) (s : St), s.i < T.length → (bsS T f s).i < T.length := by
  intro f
  induction f with
  | zero => intro s h; exact h
  | succ f ih =>
    intro s h
    unfold bsS
    split
    · exact ih _ (in_blkS hT h)
    · exact h
theorem src_wt (hT : TOk T) (h : (srcS T).f = 0) : (srcL (srcT T)).length ≤ wt T T.length := by
  unfold srcS at h
  have h1 := needS_f h
  have h2 := needS_f h1
  have h3 := bsS_f h2
  unfold srcC at h3
  have h4 := needS_f h3
  have h5 := needS_f h4
  unfold srcA at h5
  have j0 : (⟨0, 0⟩ : St).i < T.length := hT.pos
  have hp := needS_ok h5 hT j0
  have i1 : (srcA T).i < T.length := in_needS hT j0
  have hq := needS_ok h4 hT i1
  have i2 := in_needS (kind := 3) (text := []) hT i1
  have hr := needS_ok h3 hT i2
  have i3 := in_srcC hT
  have i4 := in_bsS hT T.length _ i3
  have ht := needS_ok h1 hT i4
  obtain ⟨a1, a2, a3⟩ := takeS_wt hp (by decide)
  obtain ⟨b1, b2, b3⟩ := takeS_wt hq (by decide)
  obtain ⟨c1, c2, c3⟩ := takeS_wt hr (by decide)
  obtain ⟨d1, d2, d3⟩ := takeS_wt ht (by decide)
  have v := bs_wt hT T.length _ i3 h2
  have hA : wt T (srcA T).i = wt T 0 + 2 * (tk T 0).2.1.length + 12 := a2
  have hC : wt T (srcC T).i = wt T (needS T (srcA T) 3 []).i + 2 * (tk T (needS T (srcA T) 3 []).i).2.1.length + 12 := c2
  have hin := in_needS (kind := 4) (text := [125]) hT i4
  have hm := wt_mono (T := T) (Nat.le_of_lt hin)
  have q := quoteL_len (tk T (srcA T).i).2.1
  unfold srcL srcT
  simp only [List.length_append, List.length_cons, List.length_nil, b3]
  have h0 : wt T 0 = 0 := rfl
  omega
theorem wt_sum : ∀ (i : Nat), wt T i = 2 * sumL (T.take i) + 12 * (min i T.length) + 12 * (i - T.length) := by
  intro i
  induction i with
  | zero => simp [wt, sumL]
  | succ i ih =>
    show wt T i + 2 * (tk T i).2.1.length + 12 = _
    rw [ih]
    by_cases hi : i < T.length
    · have e : sumL (T.take (i + 1)) = sumL (T.take i) + (tk T i).2.1.length := by
        rw [List.take_succ_eq_append_getElem hi]
        unfold sumL tk
        rw [List.map_append, List.sum_append, List.getD_eq_getElem?_getD, List.getElem?_eq_getElem hi]
        simp
      rw [e]
      omega
    · have e1 : T.take (i + 1) = T := List.take_of_length_le (by omega)
      have e2 : T.take i = T := List.take_of_length_le (by omega)
      have e3 : tk T i = tok0 := by unfold tk; rw [List.getD_eq_getElem?_getD, List.getElem?_eq_none (by omega)]; rfl
      rw [e1, e2, e3]
      show _ + 2 * 0 + 12 = _
      omega
end

end Go.Proofs.Ythdcgplocdehjaa
