import Derived.Test.YthplbhgbgcfogaaR10
import Derived.Test.YthplbhgbgcfogaaM4
namespace Go.Proofs.Ythplbhgbgcfogaa
open Go.RowKit Go.Proofs.Kit Go.Proofs.Nums

theorem rmul_b (va vb : Value) (n m : Nat) (w : World) (ha : BitAt w va (bitsN n)) (hb : BitAt w vb (bitsN m)) (h1 : (bitsN n).length ≤ 20000) (h2 : (bitsN m).length ≤ 20000) :
    Calls Try.prog 41 #[va, vb] w fun e w' => ∃ v', e = .returned v' ∧ BitAt w' v' (bitsN (n * m)) ∧ Below w.heap.size w w' := by
  have := rmul_any va vb _ _ w ha hb h1 h2
  rw [bval_bits, bval_bits] at this; exact this

theorem radd_b (va vb : Value) (n m : Nat) (w : World) (ha : BitAt w va (bitsN n)) (hb : BitAt w vb (bitsN m)) (h1 : Hid ((bitsN n).length ≤ 20000)) (h2 : Hid ((bitsN m).length ≤ 20000)) :
    Calls Try.prog 51 #[va, vb] w fun e w' => ∃ v', e = .returned v' ∧ BitAt w' v' (bitsN (n + m)) ∧ Below w.heap.size w w' :=
  radd_n va vb n m w ha hb (Nat.le_trans h1.out (by omega)) (Nat.le_trans h2.out (by omega))

theorem rsub_b (va vb : Value) (n m : Nat) (w : World) (ha : BitAt w va (bitsN n)) (hb : BitAt w vb (bitsN m)) (h1 : Hid ((bitsN n).length ≤ 20000)) (h2 : Hid (m ≤ n)) :
    Calls Try.prog 62 #[va, vb] w fun e w' => ∃ v', e = .returned v' ∧ BitAt w' v' (bitsN (n - m)) ∧ Below w.heap.size w w' :=
  rsub_n va vb n m w ha hb (Nat.le_trans h1.out (by omega)) h2.out

theorem rcmp_b {c : Int} (va vb : Value) (n m : Nat) (w : World) (ha : BitAt w va (bitsN n)) (hb : BitAt w vb (bitsN m)) (h1 : Hid ((bitsN n).length ≤ 20000)) (h2 : Hid ((bitsN m).length ≤ 20000)) (hc : Hid (cmpN n m = c)) :
    Calls Try.prog 61 #[va, vb] w fun e w' => e = .returned (.int .i64 c) ∧ Below w.heap.size w w' := by
  have := rcmp_n va vb n m w ha hb (Nat.le_trans h1.out (by omega)) (Nat.le_trans h2.out (by omega))
  rw [hc.out] at this; exact this

end Go.Proofs.Ythplbhgbgcfogaa
