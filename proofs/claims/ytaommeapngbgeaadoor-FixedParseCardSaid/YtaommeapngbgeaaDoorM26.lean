import Derived.Test.YtaommeapngbgeaaDoorR24
namespace Go.Proofs.YtaommeapngbgeaaDoor
open Go.RowKit Go.Proofs.Kit Go.Proofs.Nums

theorem arr_idx (l : List UInt8) (k : Nat) (h : k < (⟨l.toArray⟩ : ByteArray).size) (h' : k < l.length) : (⟨l.toArray⟩ : ByteArray)[k]'h = l[k] := rfl

/-- Read of the numbers, in one form. -/
theorem read_u {s : ByteArray} {w : World} (hs : s.size ≤ 100) :
    Calls Tryd.prog 60 #[.string s] w fun e w' => ∃ p k, e = .returned (.tuple #[.slice p (bitsN (if numB s.data.toList then pvF s.data.toList else 0)).length k, .bool (numB s.data.toList)]) ∧ BitAt w' (.slice p (bitsN (if numB s.data.toList then pvF s.data.toList else 0)).length k) (bitsN (if numB s.data.toList then pvF s.data.toList else 0)) ∧ Below w.heap.size w w' := by
  by_cases h : numB s.data.toList = true
  · refine (read_yes (by omega) h).mono ?_
    rintro e w' ⟨v', rfl, hv, hb⟩
    rw [h, if_pos rfl]
    obtain ⟨p, c, rfl⟩ := hv.shape
    exact ⟨p, c, rfl, hv, hb⟩
  · refine (read_no (by omega) h).mono ?_
    rintro e w' ⟨rfl, hb⟩
    rw [Bool.not_eq_true] at h
    rw [h]
    exact ⟨none, 0, rfl, BitAt.nil _, hb⟩

theorem bits_u {l : List UInt8} (h : l.length ≤ 100) : (bitsN (if numB l then pvF l else 0)).length ≤ 512 := by
  by_cases k : numB l = true
  · rw [if_pos k]
    refine Nat.le_trans (bits_len_le _ (4 * l.length) (Nat.lt_of_lt_of_le (num_lt k) ?_)) (by omega)
    rw [Nat.pow_mul]
    exact Nat.pow_le_pow_left (by decide) _
  · rw [if_neg k]; exact Nat.zero_le _

end Go.Proofs.YtaommeapngbgeaaDoor

namespace Go.Proofs.YtaommeapngbgeaaDoor
open Go.RowKit Go.Proofs.Kit Go.Proofs.Nums

end Go.Proofs.YtaommeapngbgeaaDoor
