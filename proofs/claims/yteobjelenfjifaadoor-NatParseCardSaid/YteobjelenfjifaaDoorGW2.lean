import Derived.Test.YteobjelenfjifaaDoorGJ
import Derived.Test.YteobjelenfjifaaDoorGL
namespace Go.Proofs.YteobjelenfjifaaDoor
open Go.RowKit Go.Proofs.Kit Go.Proofs.Nums

theorem digTo_of_num {l : List UInt8} (h : numB l = true) : DigTo l l.length := by
  unfold numB at h
  have h2 : l.all isDig = true := by
    rw [Bool.and_eq_true] at h; exact h.2
  rw [List.all_eq_true] at h2
  intro j hj
  rw [bat_lt hj]
  exact h2 _ (List.getElem_mem hj)

theorem num_lt {l : List UInt8} (h : numB l = true) : pvF l < 10 ^ l.length := by
  have := pvF_take_lt l l.length (Nat.le_refl _) (digTo_of_num h)
  rw [List.take_length] at this; exact this

theorem parse_yes {s : ByteArray} {w : World} (hs : s.size ≤ 100000) (h : numB s.data.toList = true) :
    Calls Tryd.prog 32 #[.string s] w fun e w' => ∃ v', e = .returned (.tuple #[v', .bool true]) ∧ NatAt w' v' (limbs (pvF s.data.toList)) ∧ Below w.heap.size w w' :=
  (parse_any s w hs).mono fun e w' ⟨h1, h2⟩ => by
    rw [if_pos h] at h1
    obtain ⟨v', e1, e2⟩ := h1
    exact ⟨v', e1, e2, h2⟩
theorem parse_no {s : ByteArray} {w : World} (hs : s.size ≤ 100000) (h : ¬ numB s.data.toList = true) :
    Calls Tryd.prog 32 #[.string s] w fun e w' => e = .returned (.tuple #[.slice none 0 0, .bool false]) ∧ Below w.heap.size w w' :=
  (parse_any s w hs).mono fun e w' ⟨h1, h2⟩ => by
    rw [if_neg h] at h1
    exact ⟨h1, h2⟩
theorem read_yes {s : ByteArray} {w : World} (hs : s.size ≤ 3000) (h : numB s.data.toList = true) :
    Calls Tryd.prog 34 #[.string s] w fun e w' => ∃ v', e = .returned (.tuple #[v', .bool true]) ∧ BitAt w' v' (bitsN (pvF s.data.toList)) ∧ Below w.heap.size w w' :=
  (read_any s w hs).mono fun e w' ⟨h1, h2⟩ => by
    rw [if_pos h] at h1
    obtain ⟨v', e1, e2⟩ := h1
    exact ⟨v', e1, e2, h2⟩
theorem read_no {s : ByteArray} {w : World} (hs : s.size ≤ 3000) (h : ¬ numB s.data.toList = true) :
    Calls Tryd.prog 34 #[.string s] w fun e w' => e = .returned (.tuple #[.slice none 0 0, .bool false]) ∧ Below w.heap.size w w' :=
  (read_any s w hs).mono fun e w' ⟨h1, h2⟩ => by
    rw [if_neg h] at h1
    exact ⟨h1, h2⟩


end Go.Proofs.YteobjelenfjifaaDoor
