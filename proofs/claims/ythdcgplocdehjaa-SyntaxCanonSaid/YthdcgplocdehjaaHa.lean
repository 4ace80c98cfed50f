/- What a printed definition is lexed as. -/
import Derived.Test.YthdcgplocdehjaaLxPn
import Derived.Test.YthdcgplocdehjaaPa
namespace Go.Proofs.Ythdcgplocdehjaa
open Go.RowKit Go.Proofs.Kit

theorem addT_nil (x : Except Nat (List Tok)) : addT [] x = x := by cases x <;> rfl
theorem addT_add (a b : List Tok) (x : Except Nat (List Tok)) : addT a (addT b x) = addT (a ++ b) x := by
  cases x with
  | error e => rfl
  | ok l => show Except.ok (a ++ (b ++ l)) = Except.ok (a ++ b ++ l); rw [List.append_assoc]
theorem map_addT (t : Tok) (x : Except Nat (List Tok)) : x.map (fun y => t :: y) = addT [t] x := by cases x <;> rfl
def tailOk (s : List UInt8) : Prop := ∀ d t, s = d :: t → isTail d = false

theorem L_blank (line : Nat) (c : UInt8) (r : List UInt8) (h : isBlank c = true) (h10 : ((c.toNat : Int) == 10) = false) : R line (c :: r) = R line r := by
  have h35 : ((c.toNat : Int) == 35) = false := by
    rw [beq_eq_false_iff_ne]; intro h'; simp [isBlank, h'] at h
  rw [R_blank line c r h35 (by rw [blank_in]; exact h), h10]
  rfl
theorem L_space (line : Nat) (r : List UInt8) : R line (32 :: r) = R line r := L_blank line 32 r rfl rfl
theorem L_nl (line : Nat) (r : List UInt8) : R line (10 :: r) = R (line + 1) r := R_blank line 10 r rfl rfl
theorem span_zero {c : UInt8} (r : List UInt8) (h : isTail c = false) : spanL isTail (c :: r) = 0 := spanL_cons_neg r h
theorem L_mark (line : Nat) (c : UInt8) (r : List UInt8) (h35 : ((c.toNat : Int) == 35) = false) (hb : isBlank c = false) (ht : isTail c = false) (hm : inL c [123, 125, 59, 44, 47] = true) : R line (c :: r) = addT [(4, [c], line)] (R line r) := by
  rw [R_tok line c r h35 (by rw [blank_in]; exact hb)]
  have e : oneL (c :: r) = some (4, [c], 1) := by
    unfold oneL
    rw [span_zero r ht, List.take_zero, if_neg (by decide), if_neg (by decide)]
    simp only []
    rw [if_pos hm]
  rw [e]
  exact map_addT _ _
theorem span_app {v s : List UInt8} (hv : v.all isTail = true) (hs : tailOk s) : spanL isTail (v ++ s) = v.length := by
  unfold spanL
  rw [takeWhile_app _ _ _ hv]
  cases s with
  | nil => simp
  | cons d t =>
    rw [List.takeWhile_cons, if_neg (by rw [hs d t rfl]; simp), List.append_nil]
theorem tail_plain {c : UInt8} (h : isTail c = true) : ((c.toNat : Int) == 35) = false ∧ isBlank c = false := by
  unfold isTail isLetter isDigit at h
  simp only [Bool.or_eq_true, Bool.and_eq_true, decide_eq_true_eq, beq_iff_eq] at h
  unfold isBlank
  refine ⟨by rw [beq_eq_false_iff_ne]; omega, ?_⟩
  simp only [Bool.or_eq_false_iff, beq_eq_false_iff_ne]
  omega
theorem L_word (line : Nat) (v s : List UInt8) (hv : wordB v = true) (hs : tailOk s) : R line (v ++ s) = addT [(1, v, line)] (R line s) := by
  obtain ⟨h1, h2⟩ := wordB_all hv
  cases v with
  | nil => simp at h2
  | cons c r =>
    obtain ⟨g1, g2⟩ := tail_plain (List.all_eq_true.1 h1 c (by simp))
    rw [List.cons_append, R_tok line c (r ++ s) g1 (by rw [blank_in]; exact g2), ← List.cons_append]
    have e : oneL ((c :: r) ++ s) = some (1, c :: r, (c :: r).length) := by
      unfold oneL
      rw [span_app h1 hs, List.take_left, if_pos hv]
    rw [e]
    simp only []
    rw [List.drop_left]
    exact map_addT _ _
theorem num_word {v : List UInt8} (h : numB v = true) : wordB v = false := by
  cases hw : wordB v
  · rfl
  · cases v with
    | nil => simp [wordB] at hw
    | cons c r =>
      have h1 := wordB_head hw
      have h2 := numB_head h
      rw [letter_not_digit h1] at h2
      exact h2.symm
theorem L_num (line : Nat) (v s : List UInt8) (hv : numB v = true) (hs : tailOk s) : R line (v ++ s) = addT [(2, v, line)] (R line s) := by
  obtain ⟨h1, h2⟩ := numB_all hv
  have h1 := digits_tails h1
  cases v with
  | nil => simp at h2
  | cons c r =>
    obtain ⟨g1, g2⟩ := tail_plain (List.all_eq_true.1 h1 c (by simp))
    rw [List.cons_append, R_tok line c (r ++ s) g1 (by rw [blank_in]; exact g2), ← List.cons_append]
    have e : oneL ((c :: r) ++ s) = some (2, c :: r, (c :: r).length) := by
      unfold oneL
      rw [span_app h1 hs, List.take_left, if_neg (by rw [num_word hv]; simp), if_pos hv]
    rw [e]
    simp only []
    rw [List.drop_left]
    exact map_addT _ _
theorem strL_esc : ∀ (v s : List UInt8), v.all isPrint = true → strL (escL v ++ 34 :: s) = some (v, (escL v).length + 1) := by
  intro v
  induction v with
  | nil =>
    intro s _
    show strL (34 :: s) = some ([], 1)
    unfold strL
    rw [if_pos (by decide)]
  | cons c r ih =>
    intro s h
    rw [List.all_cons, Bool.and_eq_true] at h
    have e : escL (c :: r) = (if ((c.toNat : Int) == 34 || (c.toNat : Int) == 92) then [92, c] else [c]) ++ escL r := by simp [escL]
    rw [e]
    cases hq : ((c.toNat : Int) == 34 || (c.toNat : Int) == 92)
    · rw [if_neg (by simp)]
      rw [Bool.or_eq_false_iff] at hq
      show strL (c :: (escL r ++ 34 :: s)) = _
      unfold strL
      rw [hq.1, hq.2, h.1, ih s h.2]
      simp
    · rw [if_pos rfl]
      show strL (92 :: c :: (escL r ++ 34 :: s)) = _
      unfold strL
      rw [if_neg (by decide), if_pos (by decide)]
      simp only []
      rw [hq, if_pos rfl, ih s h.2]
      simp
theorem L_str (line : Nat) (v s : List UInt8) (hv : v.all isPrint = true) : R line ((34 :: escL v ++ [34]) ++ s) = addT [(3, v, line)] (R line s) := by
  have e0 : (34 :: escL v ++ [34]) ++ s = 34 :: (escL v ++ 34 :: s) := by simp
  rw [e0, R_tok line 34 _ rfl rfl]
  have e : oneL (34 :: (escL v ++ 34 :: s)) = some (3, v, (escL v).length + 2) := by
    unfold oneL
    rw [span_zero _ (show isTail 34 = false from rfl), List.take_zero, if_neg (by decide), if_neg (by decide)]
    simp only []
    rw [if_neg (by decide), if_pos (by decide), strL_esc v s hv]
    rfl
  rw [e]
  simp only []
  have ed : (34 :: (escL v ++ 34 :: s)).drop ((escL v).length + 2) = s := by
    rw [show (escL v).length + 2 = ((escL v).length + 1) + 1 by omega, List.drop_succ_cons]
    rw [show escL v ++ 34 :: s = (escL v ++ [34]) ++ s by simp, show (escL v).length + 1 = (escL v ++ [34]).length by simp, List.drop_left]
  rw [ed]
  exact map_addT _ _
/-- The tokens of a value. -/
def valTok (v : List UInt8) (n : Nat) : List Tok :=
  if wordB v then [(1, v, n)] else if numB v then [(2, v, n)]
  else if rbareL v then [(2, v.take (spanL noSlash v), n), (4, [47], n), (2, v.drop (spanL noSlash v + 1), n)] else [(3, v, n)]
theorem slash_split {v : List UInt8} (h : spanL noSlash v < v.length) : v = v.take (spanL noSlash v) ++ 47 :: v.drop (spanL noSlash v + 1) := by
  have hsl : noSlash (v[spanL noSlash v]'h) = false := by
    have h1 := drop_spanL noSlash v
    rw [← List.getElem_cons_drop h] at h1
    exact dropWhile_head _ _ _ _ h1.symm
  have e47 : v[spanL noSlash v]'h = 47 := by
    revert hsl
    generalize v[spanL noSlash v]'h = c
    intro hsl
    unfold noSlash at hsl
    have : (c.toNat : Int) = 47 := by simpa using hsl
    exact UInt8.toNat_inj.1 (by simp; omega)
  conv => lhs; rw [← List.take_append_drop (spanL noSlash v) v, ← List.getElem_cons_drop h, e47]
theorem bare_kinds {v : List UInt8} (h : rbareL v = true) (hw : wordB v = false) (hn : numB v = false) : spanL noSlash v < v.length ∧ numB (v.take (spanL noSlash v)) = true ∧ numB (v.drop (spanL noSlash v + 1)) = true := by
  unfold rbareL at h
  split at h
  · rename_i hl
    rw [Bool.and_eq_true] at h
    exact ⟨hl, h.1, h.2⟩
  · rw [hw, hn] at h
    simp at h
theorem L_val (line : Nat) (v s : List UInt8) (hv : v.all isPrint = true) (hs : tailOk s) : R line (shownL v ++ s) = addT (valTok v line) (R line s) := by
  unfold valTok shownL
  cases hw : wordB v
  · cases hn : numB v
    · cases hb : rbareL v
      · rw [if_neg (by simp), if_neg (by simp), if_neg (by simp), if_neg (by simp)]
        have e : (quoteL v).1 = 34 :: escL v ++ [34] := by unfold quoteL; rw [if_pos hv]
        rw [e]
        exact L_str line v s hv
      · obtain ⟨h1, h2, h3⟩ := bare_kinds hb hw hn
        rw [if_pos rfl, if_neg (by simp), if_neg (by simp), if_pos rfl]
        conv => lhs; rw [slash_split h1]
        rw [List.append_assoc, List.cons_append, L_num line _ _ h2 (fun d t e => by injection e with e1 _; subst e1; rfl), L_mark line 47 _ rfl rfl rfl rfl, L_num line _ _ h3 hs, addT_add, addT_add]
        rfl
    · rw [show rbareL v = true by
        unfold rbareL
        rw [if_neg (span_noslash (digits_tails (numB_all hn).1)), hn, Bool.or_true], if_pos rfl, if_neg (by simp), if_pos rfl]
      exact L_num line v s hn hs
  · rw [show rbareL v = true by
      unfold rbareL
      rw [if_neg (span_noslash (wordB_all hw).1), hw, Bool.true_or], if_pos rfl, if_pos rfl]
    exact L_word line v s hw hs
theorem tail_cons {c : UInt8} {r : List UInt8} (h : isTail c = false) : tailOk (c :: r) := fun d t e => by injection e with e1 _; subst e1; exact h
/-- The tokens of the values behind the first one. -/
def comTok (vs : List (List UInt8)) (n : Nat) : List Tok := vs.flatMap fun v => (4, [44], n) :: valTok v n
theorem L_com (line : Nat) (s : List UInt8) (hs : tailOk s) : ∀ vs : List (List UInt8), vs.all (fun v => v.all isPrint) = true → R line (Lib.joinTail [44, 32] (vs.map shownL) ++ s) = addT (comTok vs line) (R line s) ∧ tailOk (Lib.joinTail [44, 32] (vs.map shownL) ++ s) := by
  intro vs
  induction vs with
  | nil => intro _; exact ⟨(addT_nil _).symm, hs⟩
  | cons v vs ih =>
    intro h
    rw [List.all_cons, Bool.and_eq_true] at h
    obtain ⟨i1, i2⟩ := ih h.2
    have e : Lib.joinTail [44, 32] ((v :: vs).map shownL) ++ s = 44 :: 32 :: (shownL v ++ (Lib.joinTail [44, 32] (vs.map shownL) ++ s)) := by
      simp [Lib.joinTail]
    rw [e]
    refine ⟨?_, tail_cons rfl⟩
    rw [L_mark line 44 _ rfl rfl rfl rfl, L_space, L_val line v _ h.1 i2, i1, addT_add, addT_add]
    congr 1
variable {α : Type}
/-- The tokens of a field. -/
def fldTok (f : FldA α) (n : Nat) : List Tok := (1, f.1, n) :: (match f.2.1 with
  | [] => []
  | v :: vs => valTok v n ++ comTok vs n) ++ [(4, [59], n)]
theorem L_field (line : Nat) (f : FldA α) (s : List UInt8) (hf : fieldOk f = true) : R line (fieldL f ++ s) = addT (fldTok f line) (R (line + 1) s) := by
  unfold fieldOk at hf
  simp only [Bool.and_eq_true] at hf
  obtain ⟨⟨h1, h2⟩, h3⟩ := hf
  unfold fieldL fldTok
  cases hv : f.2.1 with
  | nil => rw [hv] at h2; simp at h2
  | cons v vs =>
    rw [hv, List.all_cons, Bool.and_eq_true] at h3
    obtain ⟨i1, i2⟩ := L_com line (59 :: 10 :: s) (tail_cons rfl) vs h3.2
    rw [List.map_cons, Lib.join_cons]
    have e : [32, 32, 32, 32] ++ f.1 ++ [32] ++ (shownL v ++ Lib.joinTail [44, 32] (vs.map shownL)) ++ [59, 10] ++ s = 32 :: 32 :: 32 :: 32 :: (f.1 ++ (32 :: (shownL v ++ (Lib.joinTail [44, 32] (vs.map shownL) ++ 59 :: 10 :: s)))) := by simp
    rw [e, L_space, L_space, L_space, L_space, L_word line f.1 _ h1 (tail_cons rfl), L_space, L_val line v _ h3.1 i2, i1, L_mark line 59 _ rfl rfl rfl rfl, L_nl, addT_add, addT_add, addT_add]
    congr 1
def fsTok : List (FldA α) → Nat → List Tok
  | [], _ => []
  | f :: fs, n => fldTok f n ++ fsTok fs (n + 1)
theorem L_fields (s : List UInt8) : ∀ (fs : List (FldA α)) (line : Nat), fs.all fieldOk = true → R line (fs.flatMap fieldL ++ s) = addT (fsTok fs line) (R (line + fs.length) s) := by
  intro fs
  induction fs with
  | nil => intro line _; exact (addT_nil _).symm
  | cons f fs ih =>
    intro line h
    rw [List.all_cons, Bool.and_eq_true] at h
    rw [List.flatMap_cons, List.append_assoc, L_field line f _ h.1, ih _ h.2, addT_add, List.length_cons, show line + 1 + fs.length = line + (fs.length + 1) by omega]
    rfl
/-- The tokens of a block. -/
def blkTok (b : BlkA α) (n : Nat) : List Tok := (1, b.1, n) :: (if b.2.1.isEmpty then [] else [(1, b.2.1, n)]) ++ [(4, [123], n)] ++ fsTok b.2.2.1 (n + 1) ++ [(4, [125], n + 1 + b.2.2.1.length)]
theorem L_block (line : Nat) (b : BlkA α) (s : List UInt8) (hb : blockOk b = true) : R line (blockL b ++ s) = addT (blkTok b line) (R (line + 2 + b.2.2.1.length) s) := by
  unfold blockOk at hb
  simp only [Bool.and_eq_true] at hb
  obtain ⟨⟨h1, h2⟩, h3⟩ := hb
  unfold blockL headL blkTok
  have hr : R line (32 :: 123 :: 10 :: (b.2.2.1.flatMap fieldL ++ (32 :: 32 :: 125 :: 10 :: s))) = addT ([(4, [123], line)] ++ fsTok b.2.2.1 (line + 1) ++ [(4, [125], line + 1 + b.2.2.1.length)]) (R (line + 2 + b.2.2.1.length) s) := by
    rw [L_space, L_mark line 123 _ rfl rfl rfl rfl, L_nl, L_fields _ _ _ h3, L_space, L_space, L_mark _ 125 _ rfl rfl rfl rfl, L_nl, addT_add, addT_add, show line + 1 + b.2.2.1.length + 1 = line + 2 + b.2.2.1.length by omega]
  cases hn : b.2.1 with
  | nil =>
    have e : [32, 32] ++ b.1 ++ (if ([] : List UInt8).isEmpty then [] else 32 :: []) ++ [32, 123, 10] ++ b.2.2.1.flatMap fieldL ++ [32, 32, 125, 10] ++ s = 32 :: 32 :: (b.1 ++ (32 :: 123 :: 10 :: (b.2.2.1.flatMap fieldL ++ (32 :: 32 :: 125 :: 10 :: s)))) := by simp
    rw [e, L_space, L_space, L_word line b.1 _ h1 (tail_cons rfl), hr, addT_add]
    congr 1
  | cons c r =>
    rw [hn] at h2
    have h2 : wordB (c :: r) = true := by simpa using h2
    have e : [32, 32] ++ b.1 ++ (if (c :: r).isEmpty then [] else 32 :: (c :: r)) ++ [32, 123, 10] ++ b.2.2.1.flatMap fieldL ++ [32, 32, 125, 10] ++ s = 32 :: 32 :: (b.1 ++ (32 :: ((c :: r) ++ (32 :: 123 :: 10 :: (b.2.2.1.flatMap fieldL ++ (32 :: 32 :: 125 :: 10 :: s)))))) := by simp
    rw [e, L_space, L_space, L_word line b.1 _ h1 (tail_cons rfl), L_space, L_word line (c :: r) _ h2 (tail_cons rfl), hr, addT_add, addT_add]
    congr 1
def bsTok : List (BlkA α) → Nat → List Tok
  | [], _ => []
  | b :: bs, n => blkTok b n ++ bsTok bs (n + 2 + b.2.2.1.length)
/-- The line behind the blocks. -/
def endLine : List (BlkA α) → Nat → Nat
  | [], n => n
  | b :: bs, n => endLine bs (n + 2 + b.2.2.1.length)
theorem L_blocks (s : List UInt8) : ∀ (bs : List (BlkA α)) (line : Nat), bs.all blockOk = true → R line (bs.flatMap blockL ++ s) = addT (bsTok bs line) (R (endLine bs line) s) := by
  intro bs
  induction bs with
  | nil => intro line _; exact (addT_nil _).symm
  | cons b bs ih =>
    intro line h
    rw [List.all_cons, Bool.and_eq_true] at h
    rw [List.flatMap_cons, List.append_assoc, L_block line b _ h.1, ih _ h.2, addT_add]
    rfl
/-- The tokens of a definition, but for the last two. -/
def headTok (s : SrcA α) : List Tok := [(1, [101, 108, 101, 99, 116, 105, 111, 110], 1), (3, s.1, 1), (4, [123], 1)] ++ bsTok s.2 2
/-- The text of a definition, but for the last two bytes. -/
def cutL' (s : SrcA α) : List UInt8 := [101, 108, 101, 99, 116, 105, 111, 110, 32] ++ (quoteL s.1).1 ++ [32, 123, 10] ++ s.2.flatMap blockL
theorem srcL_cut (s : SrcA α) : srcL s = cutL' s ++ [125, 10] := rfl
theorem L_head (s : SrcA α) (r : List UInt8) (h : srcOk s = true) : R 1 (cutL' s ++ r) = addT (headTok s) (R (endLine s.2 2) r) := by
  unfold srcOk at h
  rw [Bool.and_eq_true] at h
  unfold cutL' headTok
  have e : (quoteL s.1).1 = 34 :: escL s.1 ++ [34] := by unfold quoteL; rw [if_pos h.1]
  have e2 : [101, 108, 101, 99, 116, 105, 111, 110, 32] ++ (quoteL s.1).1 ++ [32, 123, 10] ++ s.2.flatMap blockL ++ r = [101, 108, 101, 99, 116, 105, 111, 110] ++ (32 :: ((34 :: escL s.1 ++ [34]) ++ (32 :: 123 :: 10 :: (s.2.flatMap blockL ++ r)))) := by
    rw [e]; simp
  rw [e2, L_word 1 _ _ rfl (tail_cons rfl), L_space, L_str 1 s.1 _ h.1, L_space, L_mark 1 123 _ rfl rfl rfl rfl, L_nl, L_blocks r s.2 2 h.2, addT_add, addT_add, addT_add]
  congr 1
def srcTok (s : SrcA α) : List Tok := headTok s ++ [(4, [125], endLine s.2 2), (5, [], endLine s.2 2 + 1)]
theorem L_src (s : SrcA α) (h : srcOk s = true) : R 1 (srcL s) = .ok (srcTok s) := by
  rw [srcL_cut, L_head s _ h, L_mark _ 125 _ rfl rfl rfl rfl, L_nl, R_nil, addT_add]
  unfold srcTok
  show Except.ok _ = Except.ok _
  congr 1
  simp

end Go.Proofs.Ythdcgplocdehjaa
