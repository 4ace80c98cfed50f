import Derived.Test.YthplbhgbgcfogaaM2
namespace Go.Proofs.Ythplbhgbgcfogaa
open Go.RowKit Go.Proofs.Kit Go.Proofs.Nums
/-- Is the Ratio with these fields in normal form? -/
def validR (neg : Bool) (a b : List Nat) : Bool :=
  (neg == (Q.mk' neg (val a) (val b)).neg) && eqN a (limbs (Q.mk' neg (val a) (val b)).n) && eqN b (limbs (Q.mk' neg (val a) (val b)).d)

/-- v is a Ratio with these fields, limb by limb. -/
def RatL (w : World) (v : Value) (neg : Bool) (a b : List Nat) : Prop := ∃ vn vd, v = .agg #[.bool neg, vn, vd] ∧ NatAt w vn a ∧ NatAt w vd b
theorem RatL.keep {w w' : World} {v : Value} {neg : Bool} {a b : List Nat} (h : RatL w v neg a b) (hb : Below w.heap.size w w') : RatL w' v neg a b := by
  obtain ⟨vn, vd, h1, h2, h3⟩ := h; exact ⟨vn, vd, h1, h2.keep hb, h3.keep hb⟩
theorem RatL.at {w : World} {v : Value} {neg : Bool} {a b : List Nat} {L : Nat} (h : RatL w v neg a b) (ha : a.length ≤ L) (hb : b.length ≤ L) : RatAt w v ⟨neg, val a, val b⟩ L := by
  obtain ⟨vn, vd, h1, h2, h3⟩ := h; exact ⟨vn, vd, h1, Num.of h2 ha, Num.of h3 hb⟩

end Go.Proofs.Ythplbhgbgcfogaa
