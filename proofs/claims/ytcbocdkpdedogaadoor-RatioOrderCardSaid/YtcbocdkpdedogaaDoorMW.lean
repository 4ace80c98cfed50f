import Derived.Test.YtcbocdkpdedogaaDoorGT
import Derived.Test.YtcbocdkpdedogaaDoorMJ
import Derived.Test.YtcbocdkpdedogaaDoorGH
import Derived.Test.YtcbocdkpdedogaaDoorMV
import Derived.Test.YtcbocdkpdedogaaDoorGL
namespace Go.Proofs.YtcbocdkpdedogaaDoor
open Go.RowKit Go.Proofs.Kit Go.Proofs.Nums

theorem numB_dec (n : Nat) : numB (decB n) = true := by
  have h1 := decB_len n
  have h2 := decB_first n
  have h3 := dec_all n
  unfold numB
  rw [h3]
  have : (decB n).isEmpty = false := by
    cases hh : decB n with
    | nil => rw [hh] at h1; simp at h1
    | cons _ _ => rfl
  rw [this]
  simp
  by_cases h4 : bat (decB n) 0 = 48
  · right
    rcases Nat.lt_or_ge 1 (decB n).length with h5 | h5
    · exact absurd ⟨h4, h5⟩ h2
    · exact h5
  · exact .inl h4

theorem decB_le (n k : Nat) (h : (bitsN n).length ≤ k) (hk : 1 ≤ k) : (decB n).length ≤ k := by
  unfold decB
  by_cases h0 : n = 0
  · rw [if_pos h0]; simpa using hk
  · rw [if_neg h0, List.length_reverse, List.length_map]; exact Nat.le_trans (dec_len_bits n) h

theorem text_num {va : Value} {n L : Nat} {w : World} (ha : Num w va n L) (hL : L ≤ 1000) :
    Calls Tryd.prog 53 #[va] w fun e w' => e = .returned (.string ⟨(decB n).toArray⟩) ∧ Below w.heap.size w w' := by
  obtain ⟨a, h1, rfl, h3⟩ := ha
  exact text_any va a w h1 (by omega)

theorem parse_dec {n L : Nat} {w : World} (hL : 32 * L ≤ 100000) (hL1 : 1 ≤ L) (hn : n < 4294967296 ^ L) :
    Calls Tryd.prog 56 #[.string ⟨(decB n).toArray⟩] w fun e w' => ∃ v', e = .returned (.tuple #[v', .bool true]) ∧ Nrm w' v' n L ∧ Below w.heap.size w w' := by
  have hb : (bitsN n).length ≤ 32 * L := bits_len_le _ _ (by rw [base_pow] at hn; exact hn)
  refine (parse_any ⟨(decB n).toArray⟩ w (by rw [Lib.size_eq]; show (decB n).length ≤ _; exact Nat.le_trans (decB_le n (32 * L) hb (by omega)) hL)).mono ?_
  rintro e w' ⟨h1, h2⟩
  rw [if_pos (show numB (decB n) = true from numB_dec n)] at h1
  obtain ⟨v', e1, e2⟩ := h1
  refine ⟨v', e1, ⟨?_, hn⟩, h2⟩
  have : pvF (decB n) = n := pvF_dec n
  rw [← this]; exact e2


end Go.Proofs.YtcbocdkpdedogaaDoor

namespace Go.Proofs.YtcbocdkpdedogaaDoor
open Go.RowKit Go.Proofs.Kit Go.Proofs.Nums

theorem digTo_of_num {l : List UInt8} (h : numB l = true) : DigTo l l.length := by
  unfold numB at h
  have h2 : l.all isDig = true := by
    rw [Bool.and_eq_true] at h; exact h.2
  rw [List.all_eq_true] at h2
  intro j hj
  rw [bat_lt hj]
  exact h2 _ (List.getElem_mem hj)

theorem num_lt {l : List UInt8} (h : numB l = true) : pvF l < 10 ^ l.length := by
  have := pvF_take_lt l l.length (Nat.le_refl _) (digTo_of_num h)
  rw [List.take_length] at this; exact this

theorem parse_yes {s : ByteArray} {w : World} (hs : s.size ≤ 100000) (h : numB s.data.toList = true) :
    Calls Tryd.prog 56 #[.string s] w fun e w' => ∃ v', e = .returned (.tuple #[v', .bool true]) ∧ NatAt w' v' (limbs (pvF s.data.toList)) ∧ Below w.heap.size w w' :=
  (parse_any s w hs).mono fun e w' ⟨h1, h2⟩ => by
    rw [if_pos h] at h1
    obtain ⟨v', e1, e2⟩ := h1
    exact ⟨v', e1, e2, h2⟩
theorem parse_no {s : ByteArray} {w : World} (hs : s.size ≤ 100000) (h : ¬ numB s.data.toList = true) :
    Calls Tryd.prog 56 #[.string s] w fun e w' => e = .returned (.tuple #[.slice none 0 0, .bool false]) ∧ Below w.heap.size w w' :=
  (parse_any s w hs).mono fun e w' ⟨h1, h2⟩ => by
    rw [if_neg h] at h1
    exact ⟨h1, h2⟩
theorem read_yes {s : ByteArray} {w : World} (hs : s.size ≤ 3000) (h : numB s.data.toList = true) :
    Calls Tryd.prog 59 #[.string s] w fun e w' => ∃ v', e = .returned (.tuple #[v', .bool true]) ∧ BitAt w' v' (bitsN (pvF s.data.toList)) ∧ Below w.heap.size w w' :=
  (read_any s w hs).mono fun e w' ⟨h1, h2⟩ => by
    rw [if_pos h] at h1
    obtain ⟨v', e1, e2⟩ := h1
    exact ⟨v', e1, e2, h2⟩
theorem read_no {s : ByteArray} {w : World} (hs : s.size ≤ 3000) (h : ¬ numB s.data.toList = true) :
    Calls Tryd.prog 59 #[.string s] w fun e w' => e = .returned (.tuple #[.slice none 0 0, .bool false]) ∧ Below w.heap.size w w' :=
  (read_any s w hs).mono fun e w' ⟨h1, h2⟩ => by
    rw [if_neg h] at h1
    exact ⟨h1, h2⟩


end Go.Proofs.YtcbocdkpdedogaaDoor
