/- Printing, in plain lists; the code's word. -/
import Derived.Test.YthdcgplocdehjaaLxPl
import Derived.Test.YthdcgplocdehjaaLxWg
import Derived.Test.YthdcgplocdehjaaLxWf
import Derived.Test.YthdcgplocdehjaaLxRd
import Derived.Test.YthdcgplocdehjaaSj
import Derived.Lib.Join
namespace Go.Proofs.Ythdcgplocdehjaa
open Go.RowKit Go.Proofs.Kit

theorem letter_ge {c : UInt8} (h : isLetter c = true) : decide (97 ≤ (c.toNat : Int)) = true := by
  unfold isLetter at h
  rw [Bool.and_eq_true] at h
  exact h.1
theorem digit_lt {c : UInt8} (h : isDigit c = true) : decide (97 ≤ (c.toNat : Int)) = false := by
  unfold isDigit at h
  simp only [Bool.and_eq_true, decide_eq_true_eq] at h
  rw [decide_eq_false_iff_not]
  omega
theorem tail_slash {c : UInt8} (h : isTail c = true) : noSlash c = true := by
  cases hs : noSlash c
  · rw [slash_not_tail hs] at h; exact h
  · rfl
theorem wordB_all {l : List UInt8} (h : wordB l = true) : l.all isTail = true ∧ 0 < l.length := by
  unfold wordB at h
  simp only [Bool.and_eq_true, decide_eq_true_eq] at h
  exact ⟨wordL_full h.1 h.2, h.1⟩
theorem wordB_head {c : UInt8} {r : List UInt8} (h : wordB (c :: r) = true) : isLetter c = true := by
  unfold wordB at h
  simp only [Bool.and_eq_true, decide_eq_true_eq] at h
  rw [wordL_cons] at h
  by_cases hl : isLetter c = true
  · exact hl
  · rw [if_neg hl] at h
    simp at h
theorem numB_head {c : UInt8} {r : List UInt8} (h : numB (c :: r) = true) : isDigit c = true := by
  unfold numB at h
  simp only [Bool.and_eq_true, List.all_cons] at h
  exact h.1.1.1.1
theorem numB_all {l : List UInt8} (h : numB l = true) : l.all isDigit = true ∧ 0 < l.length := by
  unfold numB at h
  simp only [Bool.and_eq_true, decide_eq_true_eq] at h
  exact ⟨h.1.1.1, h.1.1.2⟩
theorem span_noslash {l : List UInt8} (h : l.all isTail = true) : ¬ spanL noSlash l < l.length := by
  rw [spanL_all (p := noSlash) (by rw [List.all_eq_true] at *; exact fun c hc => tail_slash (h c hc))]
  omega
/-- A bare string that begins with a letter is a word. -/
theorem bare_word (l : List UInt8) : (bareL l && (match l with | [] => false | c :: _ => decide (97 ≤ (c.toNat : Int)))) = wordB l := by
  rw [bare_eq]
  cases hw : wordB l
  · cases l with
    | nil => simp
    | cons c r =>
      cases hb : rbareL (c :: r)
      · rfl
      · unfold rbareL at hb
        split at hb
        · rw [Bool.and_eq_true] at hb
          have h1 := hb.1
          have h2 := (numB_all h1).2
          obtain ⟨m, hm⟩ : ∃ m, spanL noSlash (c :: r) = m + 1 := ⟨spanL noSlash (c :: r) - 1, by rw [List.length_take] at h2; omega⟩
          rw [hm, List.take_succ_cons] at h1
          simp only []
          rw [digit_lt (numB_head h1)]; rfl
        · rw [hw, Bool.false_or] at hb
          simp only []
          rw [digit_lt (numB_head hb)]; rfl
  · obtain ⟨h1, h2⟩ := wordB_all hw
    cases l with
    | nil => simp at h2
    | cons c r =>
      simp only []
      rw [letter_ge (wordB_head hw)]
      unfold rbareL
      rw [if_neg (span_noslash h1), hw]; rfl
theorem tail_print {c : UInt8} (h : isTail c = true) : isPrint c = true := by
  unfold isTail isLetter isDigit at h
  unfold isPrint
  simp only [Bool.or_eq_true, Bool.and_eq_true, decide_eq_true_eq, beq_iff_eq] at *
  omega
theorem bare_print {l : List UInt8} (h : rbareL l = true) : l.all isPrint = true := by
  have hd : ∀ {x : List UInt8}, numB x = true → x.all isPrint = true := fun hx => by
    have := (numB_all hx).1
    rw [List.all_eq_true] at *
    exact fun c hc => tail_print (digit_tail (this c hc))
  unfold rbareL at h
  split at h
  · rename_i hlt
    rw [Bool.and_eq_true] at h
    have e : l = l.take (spanL noSlash l) ++ (l[spanL noSlash l]'hlt :: l.drop (spanL noSlash l + 1)) := by
      rw [List.getElem_cons_drop, List.take_append_drop]
    have hsl : noSlash (l[spanL noSlash l]'hlt) = false := by
      have h1 := drop_spanL noSlash l
      rw [← List.getElem_cons_drop hlt] at h1
      exact dropWhile_head _ _ _ _ h1.symm
    rw [e, List.all_append, hd h.1, List.all_cons, hd h.2]
    have h47 : ((l[spanL noSlash l]'hlt).toNat : Int) = 47 := by
      revert hsl
      generalize l[spanL noSlash l]'hlt = c
      intro hsl
      unfold noSlash at hsl
      simpa using hsl
    have : isPrint (l[spanL noSlash l]'hlt) = true := by unfold isPrint; simp only [Bool.and_eq_true, decide_eq_true_eq]; omega
    rw [this]; rfl
  · rw [Bool.or_eq_true] at h
    rcases h with h | h
    · have := (wordB_all h).1
      rw [List.all_eq_true] at *
      exact fun c hc => tail_print (this c hc)
    · exact hd h

/-- A value as it is printed. -/
def shownL (v : List UInt8) : List UInt8 := if rbareL v then v else (quoteL v).1
/-- Fields, blocks, definitions, whatever a line is. -/
abbrev FldA (α : Type) := List UInt8 × List (List UInt8) × α
abbrev BlkA (α : Type) := List UInt8 × List UInt8 × List (FldA α) × α
abbrev SrcA (α : Type) := List UInt8 × List (BlkA α)
def fieldOk {α : Type} (f : FldA α) : Bool := wordB f.1 && !f.2.1.isEmpty && f.2.1.all (fun v => v.all isPrint)
def fieldL {α : Type} (f : FldA α) : List UInt8 := [32, 32, 32, 32] ++ f.1 ++ [32] ++ Lib.join (f.2.1.map shownL) [44, 32] ++ [59, 10]
def blockOk {α : Type} (b : BlkA α) : Bool := wordB b.1 && (b.2.1.isEmpty || wordB b.2.1) && b.2.2.1.all fieldOk
def headL {α : Type} (b : BlkA α) : List UInt8 := [32, 32] ++ b.1 ++ (if b.2.1.isEmpty then [] else 32 :: b.2.1) ++ [32, 123, 10]
def blockL {α : Type} (b : BlkA α) : List UInt8 := headL b ++ b.2.2.1.flatMap fieldL ++ [32, 32, 125, 10]
def srcOk {α : Type} (s : SrcA α) : Bool := s.1.all isPrint && s.2.all blockOk
def srcL {α : Type} (s : SrcA α) : List UInt8 := [101, 108, 101, 99, 116, 105, 111, 110, 32] ++ (quoteL s.1).1 ++ [32, 123, 10] ++ s.2.flatMap blockL ++ [125, 10]
def printL {α : Type} (s : SrcA α) : List UInt8 × Bool := if srcOk s && decide ((srcL s).length ≤ 20000) then (srcL s, true) else ([], false)
/-- Not great. -/
def SmF {α : Type} (f : FldA α) : Prop := f.1.length ≤ 1000 ∧ f.2.1.length ≤ 1000 ∧ ∀ v ∈ f.2.1, v.length ≤ 1000
def SmB {α : Type} (b : BlkA α) : Prop := b.1.length ≤ 1000 ∧ b.2.1.length ≤ 1000 ∧ b.2.2.1.length ≤ 1000 ∧ ∀ f ∈ b.2.2.1, SmF f
def SmS {α : Type} (s : SrcA α) : Prop := s.1.length ≤ 1000 ∧ s.2.length ≤ 1000 ∧ ∀ b ∈ s.2, SmB b
/-- The cells of a field, of a block; ln: what its line is. -/
def fldRA {α : Type} (ln : α → Int) (w : World) (c : List Value) (f : FldA α) : Prop := ∃ u, c = [strV f.1, u, .int .i64 (ln f.2.2)] ∧ RowAt w u (f.2.1.map strV)
def blkRA {α : Type} (ln : α → Int) (w : World) (c : List Value) (b : BlkA α) : Prop := ∃ u, c = [strV b.1, strV b.2.1, u, .int .i64 (ln b.2.2.2)] ∧ SliceOf (fldRA ln) 3 w u b.2.2.1
theorem escL_len (l : List UInt8) : (escL l).length ≤ 2 * l.length := by
  induction l with
  | nil => simp [escL]
  | cons c r ih =>
    have e : escL (c :: r) = (if ((c.toNat : Int) == 34 || (c.toNat : Int) == 92) then [92, c] else [c]) ++ escL r := by simp [escL]
    rw [e, List.length_append, List.length_cons]
    split <;> simp <;> omega
theorem quoteL_len (l : List UInt8) : (quoteL l).1.length ≤ 2 * l.length + 2 := by
  unfold quoteL
  split
  · have := escL_len l
    simp; omega
  · simp
theorem shownL_len (v : List UInt8) : (shownL v).length ≤ 2 * v.length + 2 := by
  unfold shownL
  split
  · omega
  · exact quoteL_len v
theorem flat_bound {α : Type} (f : α → List UInt8) (n : Nat) : ∀ l : List α, (∀ x ∈ l, (f x).length ≤ n) → (l.flatMap f).length ≤ l.length * n := by
  intro l
  induction l with
  | nil => intro _; simp
  | cons a l ih =>
    intro h
    rw [List.flatMap_cons, List.length_append, List.length_cons, Nat.add_mul]
    have h1 := h a (by simp)
    have h2 := ih (fun x hx => h x (by simp [hx]))
    omega
theorem join_bound (sep : List UInt8) (n : Nat) : ∀ l : List (List UInt8), (∀ x ∈ l, x.length ≤ n) → (Lib.join l sep).length ≤ l.length * (n + sep.length) := by
  intro l h
  cases l with
  | nil => simp [Lib.join_nil]
  | cons a l =>
    rw [Lib.join_cons, List.length_append, List.length_cons]
    have h1 := h a (by simp)
    have h2 : ∀ l : List (List UInt8), (∀ x ∈ l, x.length ≤ n) → (Lib.joinTail sep l).length ≤ l.length * (n + sep.length) := by
      intro l
      induction l with
      | nil => intro _; simp [Lib.joinTail]
      | cons b l ih =>
        intro h
        have e : Lib.joinTail sep (b :: l) = sep ++ b ++ Lib.joinTail sep l := by simp [Lib.joinTail]
        rw [e, List.length_append, List.length_append, List.length_cons, Nat.add_mul]
        have h1 := h b (by simp)
        have h2 := ih (fun x hx => h x (by simp [hx]))
        omega
    have h3 := h2 l (fun x hx => h x (by simp [hx]))
    rw [Nat.add_mul]
    omega
theorem fieldL_len {α : Type} {f : FldA α} (h : SmF f) : (fieldL f).length ≤ 3000000 := by
  obtain ⟨h1, h2, h3⟩ := h
  have h4 := join_bound [44, 32] 2002 (f.2.1.map shownL) (fun x hx => by
    obtain ⟨v, hv, rfl⟩ := List.mem_map.1 hx
    have := h3 v hv
    have := shownL_len v
    omega)
  rw [List.length_map] at h4
  have h5 : f.2.1.length * (2002 + [44, 32].length) ≤ 1000 * 2004 := Nat.mul_le_mul h2 (by simp)
  unfold fieldL
  simp only [List.length_append, List.length_cons, List.length_nil] at *
  omega
theorem headL_len {α : Type} {b : BlkA α} (h : SmB b) : (headL b).length ≤ 3000 := by
  obtain ⟨h1, h2, _⟩ := h
  unfold headL
  simp only [List.length_append, List.length_cons, List.length_nil]
  split <;> simp <;> omega
theorem blockL_len {α : Type} {b : BlkA α} (h : SmB b) : (blockL b).length ≤ 4000000000 := by
  have h0 := headL_len h
  obtain ⟨h1, h2, h3, h4⟩ := h
  have h5 := flat_bound fieldL 3000000 b.2.2.1 (fun f hf => fieldL_len (h4 f hf))
  have h6 : b.2.2.1.length * 3000000 ≤ 1000 * 3000000 := Nat.mul_le_mul_right _ h3
  unfold blockL
  simp only [List.length_append, List.length_cons, List.length_nil]
  omega

set_option maxHeartbeats 1000000 in
theorem word_c (s : ByteArray) (w : World) (hs : s.size ≤ maxLen) :
    Calls Try.prog 40 #[.string s] w fun e w' => e = .returned (.bool (wordB s.data.toList)) ∧ Below w.heap.size w w' := by
  have BA := Lib.hid (bare_any s w hs)
  have hW := bare_word s.data.toList
  by_cases h0 : 0 < s.size
  · have hE : s.toList.isEmpty = false := bempty_f s h0
    have e : s.data.toList = s[0] :: s.data.toList.drop 1 := by
      have := drop_at s 0 h0
      simpa using this
    have hW2 : (bareL s.data.toList && decide ((97 : Int) ≤ (s[0].toNat : Int))) = wordB s.data.toList := by
      rw [e] at hW ⊢
      exact hW
    rw [← hW2]
    clear hW hW2 e
    obtain ⟨b, hb⟩ : ∃ b, bareL s.data.toList = b := ⟨_, rfl⟩
    rw [hb] at BA ⊢
    clear hb
    cases b
    · go_enter Try.func40, Try.ntmps40
      go_wp2_with (go_at_call 59; ((with_reducible refine (BA.out).mono ?_); rintro e w1 ⟨rfl, hb1⟩))
      go_ret
      exact ⟨rfl, hb1⟩
    · go_enter Try.func40, Try.ntmps40
      go_wp2_with (go_at_call 59; ((with_reducible refine (BA.out).mono ?_); rintro e w1 ⟨rfl, hb1⟩))
      go_ret
      exact ⟨ret_bool (by simp), hb1⟩
  · have e := data_nil s h0
    have hf : wordB s.data.toList = false := by rw [e]; rfl
    have hbf : bareL s.data.toList = false := by rw [e]; rfl
    rw [hf]
    rw [hbf] at BA
    clear hW e hf hbf
    go_enter Try.func40, Try.ntmps40
    go_wp2_with (go_at_call 59; ((with_reducible refine (BA.out).mono ?_); rintro e w1 ⟨rfl, hb1⟩))
    go_ret
    exact ⟨rfl, hb1⟩

end Go.Proofs.Ythdcgplocdehjaa
