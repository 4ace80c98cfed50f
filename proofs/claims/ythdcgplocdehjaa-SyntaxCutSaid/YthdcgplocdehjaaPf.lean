/- The reference's Print. -/
import Derived.Test.YthdcgplocdehjaaPe
import Derived.Test.YthdcgplocdehjaaZJ
namespace Go.Proofs.Ythdcgplocdehjaa
open Go.RowKit Go.Proofs.Kit

section
variable {α : Type} {ln : α → Int}
theorem flat_take_len {β : Type} (g : β → List UInt8) (l : List β) (k : Nat) : ((l.take k).flatMap g).length ≤ (l.flatMap g).length := by
  conv => rhs; rw [← List.take_append_drop k l, List.flatMap_append, List.length_append]
  omega
theorem flat_at_len {β : Type} (g : β → List UInt8) (l : List β) (k : Nat) (h : k < l.length) : ((l.take k).flatMap g).length + (g l[k]).length ≤ (l.flatMap g).length := by
  have h1 := flat_take_len g l (k + 1)
  rw [flat_snoc g l k h, List.length_append] at h1
  exact h1
/-- Print refuses it. -/
def Bad (s : SrcA α) : Prop := srcOk s = false ∨ 20000 < (srcL s).length
theorem Bad.no {s : SrcA α} (h : Bad s) : printL s = ([], false) := by
  unfold printL
  rcases h with h | h
  · rw [h]; rfl
  · rw [show decide ((srcL s).length ≤ 20000) = false by rw [decide_eq_false_iff_not]; omega, Bool.and_false]; rfl
def preL (s : SrcA α) (k : Nat) : List UInt8 := [101, 108, 101, 99, 116, 105, 111, 110, 32] ++ (quoteL s.1).1 ++ [32, 123, 10] ++ (s.2.take k).flatMap blockL
theorem pre_len {s : SrcA α} {k : Nat} (h : k < s.2.length) : (preL s k).length + (blockL s.2[k]).length + 2 ≤ (srcL s).length := by
  have := flat_at_len blockL s.2 k h
  unfold preL srcL
  simp only [List.length_append, List.length_cons, List.length_nil]
  omega
theorem block_len {b : BlkA α} {k : Nat} (h : k < b.2.2.1.length) : (headL b).length + ((b.2.2.1.take k).flatMap fieldL).length + (fieldL b.2.2.1[k]).length + 4 ≤ (blockL b).length := by
  have := flat_at_len fieldL b.2.2.1 k h
  unfold blockL
  simp only [List.length_append, List.length_cons, List.length_nil]
  omega
theorem Bad.block {s : SrcA α} {k : Nat} (h : k < s.2.length) (hb : blockOk s.2[k] = false) : Bad s := by
  left
  unfold srcOk
  rw [all_not h hb, Bool.and_false]
theorem Bad.field {s : SrcA α} {k : Nat} (h : k < s.2.length) {b : BlkA α} (hb : s.2[k] = b) {j : Nat} (hj : j < b.2.2.1.length) (hf : fieldOk b.2.2.1[j] = false ∨ 20002 < (fieldL b.2.2.1[j]).length) : Bad s := by
  rcases hf with hf | hf
  · refine Bad.block h ?_
    rw [hb]
    unfold blockOk
    rw [all_not hj hf, Bool.and_false]
  · right
    have h1 := pre_len h
    rw [hb] at h1
    have h2 := block_len hj
    omega
def headOk (b : BlkA α) : Bool := wordB b.1 && (b.2.1.isEmpty || wordB b.2.1)
theorem blockOk_head (b : BlkA α) : blockOk b = (headOk b && b.2.2.1.all fieldOk) := rfl
/-- What is known at the head of a field's round. -/
def InB (s : SrcA α) (i : Nat) (b : BlkA α) (k : Nat) (ok : Bool) (T : List UInt8) : Prop := (ok = true → headOk b = true ∧ T = preL s i ++ headL b ++ (b.2.2.1.take k).flatMap fieldL ∧ (b.2.2.1.take k).all fieldOk = true) ∧ (ok = false → Bad s)
/-- What is known at the head of a block's round. -/
def InS (s : SrcA α) (i : Nat) (ok : Bool) (T : List UInt8) : Prop := (ok = true → s.1.all isPrint = true ∧ T = preL s i ∧ (s.2.take i).all blockOk = true) ∧ (ok = false → Bad s)
/-- The step of a field's round. -/
theorem InB.next {s : SrcA α} {i : Nat} {b : BlkA α} {k : Nat} {T : List UInt8} (hi : i < s.2.length) (hb : s.2[i] = b) (hk : k < b.2.2.1.length) (h : InB s i b k true T) {S : ByteArray} {fine : Bool} (hr : RL b.2.2.1[k] S fine) :
    InB s i b (k + 1) (fine && decide ((T ++ S.data.toList).length ≤ 20000)) (T ++ S.data.toList) := by
  obtain ⟨h1, h2, h3⟩ := h.1 rfl
  cases fine
  · exact ⟨fun e => by simp at e, fun _ => Bad.field hi hb hk (hr.2.2 rfl)⟩
  · obtain ⟨r1, r2, r3⟩ := hr.2.1 rfl
    have e : T ++ S.data.toList = preL s i ++ headL b ++ (b.2.2.1.take (k + 1)).flatMap fieldL := by rw [h2, r2, flat_snoc _ _ _ hk, ← List.append_assoc]
    refine ⟨fun _ => ⟨h1, e, all_snoc _ _ _ hk h3 r1⟩, fun hh => .inr ?_⟩
    simp only [Bool.true_and, decide_eq_false_iff_not] at hh
    have g1 := pre_len hi
    rw [hb] at g1
    have g2 := block_len hk
    rw [e, flat_snoc _ _ _ hk] at hh
    simp only [List.length_append] at hh
    omega
/-- The end of a block's round. -/
theorem InB.done {s : SrcA α} {i : Nat} {b : BlkA α} {ok : Bool} {T : List UInt8} (hi : i < s.2.length) (hb : s.2[i] = b) (h : InB s i b b.2.2.1.length ok T) (hs : InS s i true (preL s i)) :
    InS s (i + 1) (ok && decide ((T ++ [32, 32, 125, 10]).length ≤ 20000)) (T ++ [32, 32, 125, 10]) := by
  cases ok
  · exact ⟨fun e => by simp at e, fun _ => h.2 rfl⟩
  · obtain ⟨h1, h2, h3⟩ := h.1 rfl
    obtain ⟨s1, s2, s3⟩ := hs.1 rfl
    rw [List.take_length] at h2 h3
    have e : T ++ [32, 32, 125, 10] = preL s (i + 1) := by
      unfold preL
      rw [h2, flat_snoc _ _ _ hi, hb]
      unfold preL blockL
      simp only [List.append_assoc]
    refine ⟨fun _ => ⟨s1, e, all_snoc _ _ _ hi s3 (by rw [hb, blockOk_head, h1, h3]; rfl)⟩, fun hh => .inr ?_⟩
    simp only [Bool.true_and, decide_eq_false_iff_not] at hh
    have g1 := pre_len hi
    rw [hb] at g1
    rw [h2] at hh
    unfold blockL at g1
    simp only [List.length_append, List.length_cons, List.length_nil] at hh g1
    omega
theorem InB.out {s : SrcA α} {i : Nat} {b : BlkA α} {k : Nat} {T : List UInt8} (h : InB s i b k false T) (j : Nat) (T' : List UInt8) : InB s i b j false T' := ⟨fun e => by simp at e, h.2⟩
end

end Go.Proofs.Ythdcgplocdehjaa
