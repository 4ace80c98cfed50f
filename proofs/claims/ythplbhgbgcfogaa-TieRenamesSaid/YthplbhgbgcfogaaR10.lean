import Derived.Test.YthplbhgbgcfogaaR9
import Derived.Deep.RegionHeld3
namespace Go.Proofs.Ythplbhgbgcfogaa
open Go.RowKit Go.Proofs.Kit Go.Proofs.Nums

theorem from_n {v : Value} {n L : Nat} {w : World} (h : Num w v n L) (hL : L ≤ 1000) :
    Calls Try.prog 49 #[v] w fun e w' => ∃ v', e = .returned v' ∧ BitAt w' v' (bitsN n) ∧ Below w.heap.size w w' := by
  obtain ⟨a, h1, rfl, h3⟩ := h
  exact from_any v a w h1 (by omega)

theorem to_n {v : Value} {n L : Nat} {w : World} (h : BitAt w v (bitsN n)) (hL : L ≤ 1000) (hn : n < 4294967296 ^ L) :
    Calls Try.prog 40 #[v] w fun e w' => ∃ v', e = .returned v' ∧ Nrm w' v' n L ∧ Below w.heap.size w w' := by
  have hl : (bitsN n).length ≤ 32 * L := bits_len_le _ _ (by rw [base_pow] at hn; exact hn)
  refine (to_any v _ w h (by omega)).mono ?_
  rintro e w1 ⟨v1, rfl, hv1, hb1⟩
  rw [bval_bits] at hv1
  exact ⟨v1, rfl, ⟨hv1, hn⟩, hb1⟩


end Go.Proofs.Ythplbhgbgcfogaa
