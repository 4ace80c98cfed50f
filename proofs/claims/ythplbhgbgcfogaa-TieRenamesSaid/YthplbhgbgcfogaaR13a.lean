import Derived.Test.YthplbhgbgcfogaaR8
namespace Go.Proofs.Ythplbhgbgcfogaa
open Go.RowKit Go.Proofs.Kit Go.Proofs.Nums

theorem six_set3 {w : World} {H : Nat} {a0 a1 a2 b0 b1 b2 x y z : Value}
    (h : w.cell? ⟨H, 0, none⟩ = some a0 ∧ w.cell? ⟨H, 1, none⟩ = some a1 ∧ w.cell? ⟨H, 2, none⟩ = some a2 ∧ w.cell? ⟨H + 1, 0, none⟩ = some b0 ∧ w.cell? ⟨H + 1, 1, none⟩ = some b1 ∧ w.cell? ⟨H + 1, 2, none⟩ = some b2) :
    (((w.setCell ⟨H + 1 + 1, 0, none⟩ x).setCell ⟨H + 1 + 1, 1, none⟩ y).setCell ⟨H + 1 + 1, 2, none⟩ z).cell? ⟨H, 0, none⟩ = some a0 ∧ (((w.setCell ⟨H + 1 + 1, 0, none⟩ x).setCell ⟨H + 1 + 1, 1, none⟩ y).setCell ⟨H + 1 + 1, 2, none⟩ z).cell? ⟨H, 1, none⟩ = some a1 ∧ (((w.setCell ⟨H + 1 + 1, 0, none⟩ x).setCell ⟨H + 1 + 1, 1, none⟩ y).setCell ⟨H + 1 + 1, 2, none⟩ z).cell? ⟨H, 2, none⟩ = some a2 ∧ (((w.setCell ⟨H + 1 + 1, 0, none⟩ x).setCell ⟨H + 1 + 1, 1, none⟩ y).setCell ⟨H + 1 + 1, 2, none⟩ z).cell? ⟨H + 1, 0, none⟩ = some b0 ∧ (((w.setCell ⟨H + 1 + 1, 0, none⟩ x).setCell ⟨H + 1 + 1, 1, none⟩ y).setCell ⟨H + 1 + 1, 2, none⟩ z).cell? ⟨H + 1, 1, none⟩ = some b1 ∧ (((w.setCell ⟨H + 1 + 1, 0, none⟩ x).setCell ⟨H + 1 + 1, 1, none⟩ y).setCell ⟨H + 1 + 1, 2, none⟩ z).cell? ⟨H + 1, 2, none⟩ = some b2 := by
  have e : ∀ b o, b ≠ H + 1 + 1 → (((w.setCell ⟨H + 1 + 1, 0, none⟩ x).setCell ⟨H + 1 + 1, 1, none⟩ y).setCell ⟨H + 1 + 1, 2, none⟩ z).cell? ⟨b, o, none⟩ = w.cell? ⟨b, o, none⟩ := fun b o hb => set3_out (w := w) (b := H + 1 + 1) (b' := b) (o := o) (x := x) (y := y) (z := z) hb
  rw [e H 0 (by omega), e H 1 (by omega), e H 2 (by omega), e (H + 1) 0 (by omega), e (H + 1) 1 (by omega), e (H + 1) 2 (by omega)]
  exact h

end Go.Proofs.Ythplbhgbgcfogaa
