import Derived.Test.YthdcgplocdehjaaZD
import Derived.Test.YthdcgplocdehjaaZB
import Derived.Test.YthdcgplocdehjaaZC
import Derived.Test.YthdcgplocdehjaaZF
import Derived.Lib.Join
import Derived.Test.YthdcgplocdehjaaSjShelf
import Derived.Deep.RegionHeld3
/- Printing, in plain lists; the code's word. -/
namespace Go.Proofs.Ythdcgplocdehjaa
open Go.RowKit Go.Proofs.Kit

theorem letter_ge {c : UInt8} (h : isLetter c = true) : decide (97 ≤ (c.toNat : Int)) = true := by
  unfold isLetter at h
  rw [Bool.and_eq_true] at h
  exact h.1
theorem digit_lt {c : UInt8} (h : isDigit c = true) : decide (97 ≤ (c.toNat : Int)) = false := by
  unfold isDigit at h
  simp only [Bool.and_eq_true, decide_eq_true_eq] at h
  rw [decide_eq_false_iff_not]
  omega
theorem tail_slash {c : UInt8} (h : isTail c = true) : noSlash c = true := by
  cases hs : noSlash c
  · rw [slash_not_tail hs] at h; exact h
  · rfl
theorem wordB_all {l : List UInt8} (h : wordB l = true) : l.all isTail = true ∧ 0 < l.length := by
  unfold wordB at h
  simp only [Bool.and_eq_true, decide_eq_true_eq] at h
  exact ⟨wordL_full h.1 h.2, h.1⟩
theorem wordB_head {c : UInt8} {r : List UInt8} (h : wordB (c :: r) = true) : isLetter c = true := by
  unfold wordB at h
  simp only [Bool.and_eq_true, decide_eq_true_eq] at h
  rw [wordL_cons] at h
  by_cases hl : isLetter c = true
  · exact hl
  · rw [if_neg hl] at h
    simp at h
theorem numB_head {c : UInt8} {r : List UInt8} (h : numB (c :: r) = true) : isDigit c = true := by
  unfold numB at h
  simp only [Bool.and_eq_true, List.all_cons] at h
  exact h.1.1.1.1
theorem numB_all {l : List UInt8} (h : numB l = true) : l.all isDigit = true ∧ 0 < l.length := by
  unfold numB at h
  simp only [Bool.and_eq_true, decide_eq_true_eq] at h
  exact ⟨h.1.1.1, h.1.1.2⟩
theorem span_noslash {l : List UInt8} (h : l.all isTail = true) : ¬ spanL noSlash l < l.length := by
  rw [spanL_all (p := noSlash) (by rw [List.all_eq_true] at *; exact fun c hc => tail_slash (h c hc))]
  omega
/-- A bare string that begins with a letter is a word. -/
theorem bare_word (l : List UInt8) : (bareL l && (match l with | [] => false | c :: _ => decide (97 ≤ (c.toNat : Int)))) = wordB l := by
  rw [bare_eq]
  cases hw : wordB l
  · cases l with
    | nil => simp
    | cons c r =>
      cases hb : rbareL (c :: r)
      · rfl
      · unfold rbareL at hb
        split at hb
        · rw [Bool.and_eq_true] at hb
          have h1 := hb.1
          have h2 := (numB_all h1).2
          obtain ⟨m, hm⟩ : ∃ m, spanL noSlash (c :: r) = m + 1 := ⟨spanL noSlash (c :: r) - 1, by rw [List.length_take] at h2; omega⟩
          rw [hm, List.take_succ_cons] at h1
          simp only []
          rw [digit_lt (numB_head h1)]; rfl
        · rw [hw, Bool.false_or] at hb
          simp only []
          rw [digit_lt (numB_head hb)]; rfl
  · obtain ⟨h1, h2⟩ := wordB_all hw
    cases l with
    | nil => simp at h2
    | cons c r =>
      simp only []
      rw [letter_ge (wordB_head hw)]
      unfold rbareL
      rw [if_neg (span_noslash h1), hw]; rfl
theorem tail_print {c : UInt8} (h : isTail c = true) : isPrint c = true := by
  unfold isTail isLetter isDigit at h
  unfold isPrint
  simp only [Bool.or_eq_true, Bool.and_eq_true, decide_eq_true_eq, beq_iff_eq] at *
  omega
theorem bare_print {l : List UInt8} (h : rbareL l = true) : l.all isPrint = true := by
  have hd : ∀ {x : List UInt8}, numB x = true → x.all isPrint = true := fun hx => by
    have := (numB_all hx).1
    rw [List.all_eq_true] at *
    exact fun c hc => tail_print (digit_tail (this c hc))
  unfold rbareL at h
  split at h
  · rename_i hlt
    rw [Bool.and_eq_true] at h
    have e : l = l.take (spanL noSlash l) ++ (l[spanL noSlash l]'hlt :: l.drop (spanL noSlash l + 1)) := by
      rw [List.getElem_cons_drop, List.take_append_drop]
    have hsl : noSlash (l[spanL noSlash l]'hlt) = false := by
      have h1 := drop_spanL noSlash l
      rw [← List.getElem_cons_drop hlt] at h1
      exact dropWhile_head _ _ _ _ h1.symm
    rw [e, List.all_append, hd h.1, List.all_cons, hd h.2]
    have h47 : ((l[spanL noSlash l]'hlt).toNat : Int) = 47 := by
      revert hsl
      generalize l[spanL noSlash l]'hlt = c
      intro hsl
      unfold noSlash at hsl
      simpa using hsl
    have : isPrint (l[spanL noSlash l]'hlt) = true := by unfold isPrint; simp only [Bool.and_eq_true, decide_eq_true_eq]; omega
    rw [this]; rfl
  · rw [Bool.or_eq_true] at h
    rcases h with h | h
    · have := (wordB_all h).1
      rw [List.all_eq_true] at *
      exact fun c hc => tail_print (this c hc)
    · exact hd h

/-- A value as it is printed. -/
def shownL (v : List UInt8) : List UInt8 := if rbareL v then v else (quoteL v).1
/-- Fields, blocks, definitions, whatever a line is. -/
abbrev FldA (α : Type) := List UInt8 × List (List UInt8) × α
abbrev BlkA (α : Type) := List UInt8 × List UInt8 × List (FldA α) × α
abbrev SrcA (α : Type) := List UInt8 × List (BlkA α)
def fieldOk {α : Type} (f : FldA α) : Bool := wordB f.1 && !f.2.1.isEmpty && f.2.1.all (fun v => v.all isPrint)
def fieldL {α : Type} (f : FldA α) : List UInt8 := [32, 32, 32, 32] ++ f.1 ++ [32] ++ Lib.join (f.2.1.map shownL) [44, 32] ++ [59, 10]
def blockOk {α : Type} (b : BlkA α) : Bool := wordB b.1 && (b.2.1.isEmpty || wordB b.2.1) && b.2.2.1.all fieldOk
def headL {α : Type} (b : BlkA α) : List UInt8 := [32, 32] ++ b.1 ++ (if b.2.1.isEmpty then [] else 32 :: b.2.1) ++ [32, 123, 10]
def blockL {α : Type} (b : BlkA α) : List UInt8 := headL b ++ b.2.2.1.flatMap fieldL ++ [32, 32, 125, 10]
def srcOk {α : Type} (s : SrcA α) : Bool := s.1.all isPrint && s.2.all blockOk
def srcL {α : Type} (s : SrcA α) : List UInt8 := [101, 108, 101, 99, 116, 105, 111, 110, 32] ++ (quoteL s.1).1 ++ [32, 123, 10] ++ s.2.flatMap blockL ++ [125, 10]
def printL {α : Type} (s : SrcA α) : List UInt8 × Bool := if srcOk s && decide ((srcL s).length ≤ 20000) then (srcL s, true) else ([], false)
/-- Not great. -/
def SmF {α : Type} (f : FldA α) : Prop := f.1.length ≤ 1000 ∧ f.2.1.length ≤ 1000 ∧ ∀ v ∈ f.2.1, v.length ≤ 1000
def SmB {α : Type} (b : BlkA α) : Prop := b.1.length ≤ 1000 ∧ b.2.1.length ≤ 1000 ∧ b.2.2.1.length ≤ 1000 ∧ ∀ f ∈ b.2.2.1, SmF f
def SmS {α : Type} (s : SrcA α) : Prop := s.1.length ≤ 1000 ∧ s.2.length ≤ 1000 ∧ ∀ b ∈ s.2, SmB b
/-- The cells of a field, of a block; ln: what its line is. -/
def fldRA {α : Type} (ln : α → Int) (w : World) (c : List Value) (f : FldA α) : Prop := ∃ u, c = [strV f.1, u, .int .i64 (ln f.2.2)] ∧ RowAt w u (f.2.1.map strV)
def blkRA {α : Type} (ln : α → Int) (w : World) (c : List Value) (b : BlkA α) : Prop := ∃ u, c = [strV b.1, strV b.2.1, u, .int .i64 (ln b.2.2.2)] ∧ SliceOf (fldRA ln) 3 w u b.2.2.1
theorem escL_len (l : List UInt8) : (escL l).length ≤ 2 * l.length := by
  induction l with
  | nil => simp [escL]
  | cons c r ih =>
    have e : escL (c :: r) = (if ((c.toNat : Int) == 34 || (c.toNat : Int) == 92) then [92, c] else [c]) ++ escL r := by simp [escL]
    rw [e, List.length_append, List.length_cons]
    split <;> simp <;> omega
theorem quoteL_len (l : List UInt8) : (quoteL l).1.length ≤ 2 * l.length + 2 := by
  unfold quoteL
  split
  · have := escL_len l
    simp; omega
  · simp
theorem shownL_len (v : List UInt8) : (shownL v).length ≤ 2 * v.length + 2 := by
  unfold shownL
  split
  · omega
  · exact quoteL_len v
theorem flat_bound {α : Type} (f : α → List UInt8) (n : Nat) : ∀ l : List α, (∀ x ∈ l, (f x).length ≤ n) → (l.flatMap f).length ≤ l.length * n := by
  intro l
  induction l with
  | nil => intro _; simp
  | cons a l ih =>
    intro h
    rw [List.flatMap_cons, List.length_append, List.length_cons, Nat.add_mul]
    have h1 := h a (by simp)
    have h2 := ih (fun x hx => h x (by simp [hx]))
    omega
theorem join_bound (sep : List UInt8) (n : Nat) : ∀ l : List (List UInt8), (∀ x ∈ l, x.length ≤ n) → (Lib.join l sep).length ≤ l.length * (n + sep.length) := by
  intro l h
  cases l with
  | nil => simp [Lib.join_nil]
  | cons a l =>
    rw [Lib.join_cons, List.length_append, List.length_cons]
    have h1 := h a (by simp)
    have h2 : ∀ l : List (List UInt8), (∀ x ∈ l, x.length ≤ n) → (Lib.joinTail sep l).length ≤ l.length * (n + sep.length) := by
      intro l
      induction l with
      | nil => intro _; simp [Lib.joinTail]
      | cons b l ih =>
        intro h
        have e : Lib.joinTail sep (b :: l) = sep ++ b ++ Lib.joinTail sep l := by simp [Lib.joinTail]
        rw [e, List.length_append, List.length_append, List.length_cons, Nat.add_mul]
        have h1 := h b (by simp)
        have h2 := ih (fun x hx => h x (by simp [hx]))
        omega
    have h3 := h2 l (fun x hx => h x (by simp [hx]))
    rw [Nat.add_mul]
    omega
theorem fieldL_len {α : Type} {f : FldA α} (h : SmF f) : (fieldL f).length ≤ 3000000 := by
  obtain ⟨h1, h2, h3⟩ := h
  have h4 := join_bound [44, 32] 2002 (f.2.1.map shownL) (fun x hx => by
    obtain ⟨v, hv, rfl⟩ := List.mem_map.1 hx
    have := h3 v hv
    have := shownL_len v
    omega)
  rw [List.length_map] at h4
  have h5 : f.2.1.length * (2002 + [44, 32].length) ≤ 1000 * 2004 := Nat.mul_le_mul h2 (by simp)
  unfold fieldL
  simp only [List.length_append, List.length_cons, List.length_nil] at *
  omega
theorem headL_len {α : Type} {b : BlkA α} (h : SmB b) : (headL b).length ≤ 3000 := by
  obtain ⟨h1, h2, _⟩ := h
  unfold headL
  simp only [List.length_append, List.length_cons, List.length_nil]
  split <;> simp <;> omega
theorem blockL_len {α : Type} {b : BlkA α} (h : SmB b) : (blockL b).length ≤ 4000000000 := by
  have h0 := headL_len h
  obtain ⟨h1, h2, h3, h4⟩ := h
  have h5 := flat_bound fieldL 3000000 b.2.2.1 (fun f hf => fieldL_len (h4 f hf))
  have h6 : b.2.2.1.length * 3000000 ≤ 1000 * 3000000 := Nat.mul_le_mul_right _ h3
  unfold blockL
  simp only [List.length_append, List.length_cons, List.length_nil]
  omega

set_option maxHeartbeats 1000000 in
theorem word_c (s : ByteArray) (w : World) (hs : s.size ≤ maxLen) :
    Calls Try.prog 40 #[.string s] w fun e w' => e = .returned (.bool (wordB s.data.toList)) ∧ Below w.heap.size w w' := by
  have BA := Lib.hid (bare_any s w hs)
  have hW := bare_word s.data.toList
  by_cases h0 : 0 < s.size
  · have hE : s.toList.isEmpty = false := bempty_f s h0
    have e : s.data.toList = s[0] :: s.data.toList.drop 1 := by
      have := drop_at s 0 h0
      simpa using this
    have hW2 : (bareL s.data.toList && decide ((97 : Int) ≤ (s[0].toNat : Int))) = wordB s.data.toList := by
      rw [e] at hW ⊢
      exact hW
    rw [← hW2]
    clear hW hW2 e
    obtain ⟨b, hb⟩ : ∃ b, bareL s.data.toList = b := ⟨_, rfl⟩
    rw [hb] at BA ⊢
    clear hb
    cases b
    · go_enter Try.func40, Try.ntmps40
      go_wp2_with (go_at_call 59; ((with_reducible refine (BA.out).mono ?_); rintro e w1 ⟨rfl, hb1⟩))
      go_ret
      exact ⟨rfl, hb1⟩
    · go_enter Try.func40, Try.ntmps40
      go_wp2_with (go_at_call 59; ((with_reducible refine (BA.out).mono ?_); rintro e w1 ⟨rfl, hb1⟩))
      go_ret
      exact ⟨ret_bool (by simp), hb1⟩
  · have e := data_nil s h0
    have hf : wordB s.data.toList = false := by rw [e]; rfl
    have hbf : bareL s.data.toList = false := by rw [e]; rfl
    rw [hf]
    rw [hbf] at BA
    clear hW e hf hbf
    go_enter Try.func40, Try.ntmps40
    go_wp2_with (go_at_call 59; ((with_reducible refine (BA.out).mono ?_); rintro e w1 ⟨rfl, hb1⟩))
    go_ret
    exact ⟨rfl, hb1⟩

end Go.Proofs.Ythdcgplocdehjaa

/- The code's line. -/
namespace Go.Proofs.Ythdcgplocdehjaa
open Go.RowKit Go.Proofs.Kit

/-- An element of a row of strings. -/
theorem RowAt.strAt {w : World} {v : Value} {l : List (List UInt8)} (h : RowAt w v (l.map strV)) {i : Nat} (hi : i < l.length) :
    ∃ b off cap, v = .slice (some ⟨b, off, none⟩) l.length cap ∧ l.length ≤ cap ∧ cap ≤ 9223372036854775807 ∧ b < w.heap.size ∧ ∀ j (hj : j < l.length), w.cell? ⟨b, off + j, none⟩ = some (.string ⟨l[j].toArray⟩) := by
  rcases h.cases with ⟨h0, _⟩ | ⟨_, b', off, cap, rfl, h1, h2, hlt, hc⟩
  · rw [List.map_eq_nil_iff] at h0; subst h0; simp at hi
  · rw [List.length_map] at *
    exact ⟨b', off, cap, rfl, h1, h2, hlt, fun j hj => hc j _ (by rw [List.getElem?_map, List.getElem?_eq_getElem hj]; rfl)⟩
theorem RowAt.shapeS {w : World} {v : Value} {l : List (List UInt8)} (h : RowAt w v (l.map strV)) : ∃ p cap, v = .slice p l.length cap ∧ l.length ≤ cap ∧ cap ≤ 9223372036854775807 := by
  obtain ⟨p, cap, rfl, h1, h2, _⟩ := h
  rw [List.length_map] at *
  exact ⟨p, cap, rfl, h1, h2⟩
theorem ret_sbl {l m : List UInt8} {b c : Bool} (h : l = m) (k : b = c) : Ending.returned (.tuple #[.string ⟨l.toArray⟩, .bool b]) = .returned (.tuple #[.string ⟨m.toArray⟩, .bool c]) := by rw [h, k]
theorem mk_data' (l : List UInt8) : (⟨l.toArray⟩ : ByteArray).data.toList = l := rfl
theorem size_cat (a b : ByteArray) : (a ++ b).size = a.size + b.size := by rw [Lib.size_eq, Lib.size_eq, Lib.size_eq, data_app', List.length_append]

theorem take_snoc' {α β : Type} (g : α → β) (l : List α) (k : Nat) (h : k < l.length) : (l.take (k + 1)).map g = (l.take k).map g ++ [g l[k]] := by
  rw [List.take_succ_eq_append_getElem h, List.map_append]; rfl
theorem all_not {α : Type} {p : α → Bool} {l : List α} {k : Nat} (h : k < l.length) (hp : p l[k] = false) : l.all p = false := by
  rw [Bool.eq_false_iff]
  intro ha
  rw [List.all_eq_true.1 ha _ (List.getElem_mem h)] at hp
  simp at hp
theorem quoteL_ok (v : List UInt8) : (quoteL v).2 = v.all isPrint := by
  unfold quoteL
  split
  · rename_i h; exact h.symm
  · rename_i h; exact (by simpa using h : v.all isPrint = false).symm
theorem ret_sbb {a b : ByteArray} {c d : Bool} (h : a = b) (k : c = d) : Ending.returned (.tuple #[.string a, .bool c]) = .returned (.tuple #[.string b, .bool d]) := by rw [h, k]
/-- strings.Join over a row of the call's own. -/
theorem join_c {w : World} {base : Nat} {u : Value} {l : List (List UInt8)} (hl : 0 < l.length) (ho : w.ownsRow base 9 1 u l.length (l.map strV)) (hb : (Lib.join l [44, 32]).length ≤ 140737488355328) (hn : l.length ≤ 140737488355328) :
    Calls Try.prog 60 #[u, .string ⟨#[44, 32]⟩] w fun e w' => e = .returned (.string ⟨(Lib.join l [44, 32]).toArray⟩) ∧ Below w.heap.size w w' := by
  obtain ⟨b, off, cap, rfl, h1, h2, h3, h4⟩ := RowAt.strAt (RowAt.owned ho) hl
  have e1 : (l.map fun x => (⟨x.toArray⟩ : ByteArray)).map (·.data.toList) = l := by rw [List.map_map]; exact List.map_id _
  have := Try.strings_Join b off cap (l.map fun x => ⟨x.toArray⟩) ⟨#[44, 32]⟩ w (fun j x hx => by
    rw [List.getElem?_map] at hx
    obtain ⟨y, hy, rfl⟩ := Option.map_eq_some_iff.1 hx
    obtain ⟨hj, rfl⟩ := List.getElem?_eq_some_iff.1 hy
    exact h4 j hj) h3 (by rw [List.length_map]; exact hn) (by rw [List.length_map]; exact h1) (by rw [e1]; exact hb)
  rw [e1, List.length_map] at this
  exact this

set_option maxRecDepth 100000 in
set_option maxHeartbeats 4000000 in
theorem line_c {α : Type} {f : FldA α} (hf : SmF f) {u : Value} {l : Int} (w : World) (hu : RowAt w u (f.2.1.map strV)) :
    Calls Try.prog 41 #[.agg #[strV f.1, u, .int .i64 l]] w fun e w' => e = .returned (.tuple #[.string ⟨(if fieldOk f then fieldL f else []).toArray⟩, .bool (fieldOk f)]) ∧ Below w.heap.size w w' := by
  obtain ⟨K, hK⟩ : ∃ K : ByteArray, (⟨f.1.toArray⟩ : ByteArray) = K := ⟨_, rfl⟩
  have hKd : K.data.toList = f.1 := by rw [← hK]
  have hKs : K.size ≤ 1000 := by rw [Lib.size_eq, hKd]; exact hf.1
  have HKD := Lib.hid hKd
  obtain ⟨p, cap, eu, hc1, hc2⟩ := RowAt.shapeS hu
  have hn := hf.2.1
  have hBd : Below w.heap.size w (w.alloc (.cells #[.string K, u, .int .i64 l] 42)) := (Below.refl _ _).alloc (Nat.le_refl _) _
  have R0 := Lib.hid (Bk.new w #[.string K, u, .int .i64 l] 42)
  have hu0 := hu.keep hBd
  subst eu
  have WA := Lib.hid (word_c K (w.alloc (.cells #[.string K, .slice p f.2.1.length cap, .int .i64 l] 42)) (by unfold maxLen; omega))
  rw [HKD.out] at WA
  rw [show strV f.1 = .string K by unfold strV; rw [hK]]
  obtain ⟨wd, hwd⟩ : ∃ b, wordB f.1 = b := ⟨_, rfl⟩
  have HWD := Lib.hid hwd
  rw [hwd] at WA
  clear hK hKd hwd
  obtain ⟨c0, c1, c2⟩ := R0.out.three
  cases wd
  · have hno : fieldOk f = false := by unfold fieldOk; rw [HWD.out]; rfl
    rw [hno, if_neg (by simp)]
    go_enter Try.func41, Try.ntmps41
    go_wp2_with (go_at_call 40; ((with_reducible refine (WA.out).mono ?_); rintro e w1 ⟨rfl, hb1⟩))
    go_ret2
    exact ⟨rfl, hBd.trans (hb1.mono (by have := hBd.size; omega))⟩
  · by_cases h0 : f.2.1 = []
    · have hno : fieldOk f = false := by unfold fieldOk; rw [HWD.out, h0]; rfl
      have hl0 : f.2.1.length = 0 := by rw [h0]; rfl
      rw [hno, if_neg (by simp)]
      rw [hl0] at R0 WA c0 c1 hBd ⊢
      go_enter Try.func41, Try.ntmps41
      go_wp2_with (go_at_call 40; ((with_reducible refine (WA.out).mono ?_); rintro e w1 ⟨rfl, hb1⟩; have d1 := cell_keep hb1 c1))
      go_ret2
      exact ⟨rfl, hBd.trans (hb1.mono (by have := hBd.size; omega))⟩
    · have hpos : 0 < f.2.1.length := by cases hq : f.2.1 with
        | nil => exact absurd hq h0
        | cons a r => simp
      have hOK : Hid (fieldOk f = f.2.1.all (fun v => v.all isPrint)) := Lib.hid (by
        unfold fieldOk
        rw [HWD.out, show f.2.1.isEmpty = false by rw [Bool.eq_false_iff]; intro h; exact h0 (List.isEmpty_iff.1 h)]
        rfl)
      obtain ⟨n, hnn⟩ : ∃ n, f.2.1.length = n := ⟨_, rfl⟩
      have hnz : ((n : Int) == 0) = false := by rw [beq_eq_false_iff_ne]; omega
      have HN := Lib.hid hnn
      rw [hnn] at R0 WA c0 c1 c2 hc1 hn hpos hu0 hBd ⊢
      obtain ⟨ok, hok⟩ : ∃ b, fieldOk f = b := ⟨_, rfl⟩
      obtain ⟨A, hA⟩ : ∃ A : ByteArray, (⟨(if fieldOk f then fieldL f else []).toArray⟩ : ByteArray) = A := ⟨_, rfl⟩
      rw [hA, hok]
      have HOk := Lib.hid hok
      have HAn := Lib.hid hA
      clear h0 hok hA
      go_enter Try.func41, Try.ntmps41
      go_wp2_with (go_at_call 40; ((with_reducible refine (WA.out).mono ?_); rintro e w1 ⟨rfl, hb1⟩; have d1 := cell_keep hb1 c1; have d0 := cell_keep hb1 c0))
      have hrow := hu0.keep hb1
      have hbw : Below w.heap.size w w1 := hBd.trans (hb1.mono (by have := hBd.size; omega))
      have R1 := Lib.hid (R0.out.keep hb1)
      go_loopw [4, 22] (fun v i wr => ∃ k : Nat, k ≤ n ∧ i = .int .i64 k ∧ wr.ownsRow w1.heap.size 9 1 v k ((f.2.1.take k).map fun v => strV (shownL v)) ∧ Below w1.heap.size w1 wr ∧ Hid ((f.2.1.take k).all (fun v => v.all isPrint) = true)) (fun _ i _ => n - (intOf i).toNat)
      case atStart => exact ⟨0, by omega, rfl, World.ownsRow_nil _ _ _ _, Below.refl _ _, Lib.hid rfl⟩
      case round =>
        obtain ⟨k, hk, rfl, hown, hbr1, hP⟩ := hrel
        have hbr : Below w.heap.size w wr := bel3 hbw hbr1
        by_cases hlt : k < n
        · have hkl : k < f.2.1.length := by rw [HN.out]; exact hlt
          obtain ⟨b, off, cap', eb, hx1, hx2, hbl, hcell⟩ := RowAt.strAt (hrow.keep hbr1) hkl
          injection eb with eb1 eb2 eb3
          subst eb1
          subst eb3
          clear eb2
          have hck := hcell k hkl
          obtain ⟨v, hv⟩ : ∃ v, f.2.1[k] = v := ⟨_, rfl⟩
          have hvl : v.length ≤ 1000 := by rw [← hv]; exact hf.2.2 _ (List.getElem_mem hkl)
          have HT : Hid ((f.2.1.take (k + 1)).map (fun v => strV (shownL v)) = (f.2.1.take k).map (fun v => strV (shownL v)) ++ [strV (shownL v)]) := Lib.hid (by rw [take_snoc' _ _ _ hkl, hv])
          have HA : Hid (v.all isPrint = false → fieldOk f = false) := Lib.hid (fun h => by rw [hOK.out]; exact all_not hkl (by rw [hv]; exact h))
          have HP : Hid (v.all isPrint = true → (f.2.1.take (k + 1)).all (fun v => v.all isPrint) = true) := Lib.hid (fun h => by
            rw [List.take_succ_eq_append_getElem hkl, List.all_append, hP.out, List.all_cons, hv, h]; rfl)
          rw [hv] at hck
          obtain ⟨V, hV⟩ : ∃ V : ByteArray, (⟨v.toArray⟩ : ByteArray) = V := ⟨_, rfl⟩
          have hVd : V.data.toList = v := by rw [← hV]
          have hVs : V.size ≤ 1000 := by rw [Lib.size_eq, hVd]; exact hvl
          have QA := Lib.hid (quote_any V wr (by omega))
          have BA := Lib.hid (fun w => bare_any V w (by unfold maxLen; omega))
          rw [hVd] at QA BA
          rw [hV] at hck
          obtain ⟨Q, hQ⟩ : ∃ Q : ByteArray, (⟨(quoteL v).1.toArray⟩ : ByteArray) = Q := ⟨_, rfl⟩
          rw [hQ] at QA
          obtain ⟨qb, hqb⟩ : ∃ b, (quoteL v).2 = b := ⟨_, rfl⟩
          have hqb2 : v.all isPrint = qb := by rw [← hqb, quoteL_ok]
          rw [hqb] at QA
          obtain ⟨bb, hbb⟩ : ∃ b, bareL v = b := ⟨_, rfl⟩
          have HS : Hid (strV (shownL v) = .string (if bb then V else Q)) := Lib.hid (by
            unfold strV shownL
            rw [← bare_eq, hbb]
            cases bb
            · rw [if_neg (by simp), if_neg (by simp), hQ]
            · rw [if_pos rfl, if_pos rfl, hV])
          rw [hbb] at BA
          rw [hqb2] at HA HP
          clear hv hV hVd hQ hqb hqb2 hbb hcell hkl
          obtain ⟨wo, rfl⟩ : ∃ x, x = wr := ⟨_, rfl⟩
          cases qb
          · go_wp2_with (go_at_call 25; ((with_reducible refine (QA.out).mono ?_); rintro e w2 ⟨rfl, hb2⟩))
            go_ret2
            have hno := HA.out (by first | rfl | trivial)
            exact ⟨ret_sbb (by rw [← HAn.out, hno]; rfl) (by rw [← HOk.out, hno]), hbr.trans (hb2.mono hbr.size)⟩
          · cases bb
            all_goals
              go_wp2_with (first
                | (go_at_call 25; ((with_reducible refine (QA.out).mono ?_); rintro e w2 ⟨rfl, hb2⟩))
                | (go_at_call 59; ((with_reducible refine (BA.out _).mono ?_); rintro e w3 ⟨rfl, hb3⟩; have hb23 := hb2.trans (hb3.mono hb2.size); have hown3 := ownsRow_below hown hb23))
                | (at_builtin; refine append_one erS rfl rfl hown3 rfl rfl rfl (by simp [Value.oneCell']) (by omega) (by omega) (hbr1.trans (hb23.mono hbr1.size)).size ?_; intro v' w4 hown4 hg4 hb4 hne4))
              go_roundw
              case rel =>
                exact ⟨k + 1, by omega, by go_num, by rw [HT.out, HS.out]; exact hown4, (hbr1.trans (hb23.mono hbr1.size)).trans hb4, Lib.hid (HP.out (by first | rfl | trivial))⟩
              case measure => simp [intOf]; omega
        · have hkn : k = n := by omega
          subst hkn
          have hOK1 : fieldOk f = true := by
            have := hP.out
            rw [← HN.out, List.take_length] at this
            rw [hOK.out, this]
          have hown' : wr.ownsRow w1.heap.size 9 1 u4 (f.2.1.map shownL).length ((f.2.1.map shownL).map strV) := by
            rw [List.length_map, HN.out, List.map_map]
            have := hown
            rw [← HN.out, List.take_length] at this
            rw [HN.out] at this
            exact this
          have hJ : (Lib.join (f.2.1.map shownL) [44, 32]).length ≤ 2004000 := by
            have h4 := join_bound [44, 32] 2002 (f.2.1.map shownL) (fun x hx => by
              obtain ⟨v, hv, rfl⟩ := List.mem_map.1 hx
              have := hf.2.2 v hv
              have := shownL_len v
              omega)
            rw [List.length_map] at h4
            have h5 : f.2.1.length * (2002 + [44, 32].length) ≤ 1000 * 2004 := Nat.mul_le_mul (by omega) (by simp)
            omega
          have JN := Lib.hid (join_c (by rw [List.length_map]; omega) (ownsRow_below hown' (Below.refl _ _).drew) (by omega) (by rw [List.length_map]; omega))
          obtain ⟨J, hJJ⟩ : ∃ J : ByteArray, (⟨(Lib.join (f.2.1.map shownL) [44, 32]).toArray⟩ : ByteArray) = J := ⟨_, rfl⟩
          have hJs : J.size ≤ 2004000 := by rw [← hJJ, size_mk]; exact hJ
          rw [hJJ] at JN
          have HF : Hid ((⟨(fieldL f).toArray⟩ : ByteArray) = (((⟨#[32, 32, 32, 32]⟩ : ByteArray) ++ K ++ (⟨#[32]⟩ : ByteArray)) ++ J) ++ (⟨#[59, 10]⟩ : ByteArray)) := Lib.hid (by
            rw [← Lib.mk_data (_ ++ _)]
            simp only [data_app', HKD.out, ← hJJ]
            rfl)
          have hA2 : A = (((⟨#[32, 32, 32, 32]⟩ : ByteArray) ++ K ++ (⟨#[32]⟩ : ByteArray)) ++ J) ++ (⟨#[59, 10]⟩ : ByteArray) := by rw [← HAn.out, hOK1, if_pos rfl, HF.out]
          have hok2 : ok = true := by rw [← HOk.out, hOK1]
          clear hJJ hJ hown hown' hOK1
          have e0 := cell_keep (hbr1.drew) d0
          have HA2 := Lib.hid hA2
          have HK2 := Lib.hid hok2
          clear hA2 hok2
          go_wp2_with fail
          go_region_with (first | (go_at_call 60; ((with_reducible refine (JN.out).mono ?_); rintro e w9 ⟨rfl, hb9⟩; have e9 := cell_keep hb9 e0)))
          all_goals
            go_wp2_with fail
            go_ret2
            exact ⟨ret_sbb HA2.out.symm HK2.out.symm, hbr.drew.trans (hb9.mono hbr.drew.size)⟩

end Go.Proofs.Ythdcgplocdehjaa
