import Derived.Test.YtlhkjkhbgebgiaaMB
namespace Go.Proofs.Ytlhkjkhbgebgiaa
open Go.RowKit Go.Proofs.Kit Go.Proofs.Nums

/-- v denotes n, in at most L limbs. -/
def Num (w : World) (v : Value) (n L : Nat) : Prop := ∃ l, NatAt w v l ∧ val l = n ∧ l.length ≤ L
/-- v denotes n in normal form, in at most L limbs. -/
def Nrm (w : World) (v : Value) (n L : Nat) : Prop := NatAt w v (limbs n) ∧ n < 4294967296 ^ L

theorem Num.keep {w w' : World} {v : Value} {n L : Nat} (h : Num w v n L) (hb : Below w.heap.size w w') : Num w' v n L := by
  obtain ⟨l, h1, h2, h3⟩ := h; exact ⟨l, h1.keep hb, h2, h3⟩
theorem Nrm.keep {w w' : World} {v : Value} {n L : Nat} (h : Nrm w v n L) (hb : Below w.heap.size w w') : Nrm w' v n L := ⟨h.1.keep hb, h.2⟩
theorem Nrm.num {w : World} {v : Value} {n L : Nat} (h : Nrm w v n L) : Num w v n L := ⟨_, h.1, val_limbs n, limbs_len_le n L h.2⟩
theorem Num.lt {w : World} {v : Value} {n L : Nat} (h : Num w v n L) : n < 4294967296 ^ L := by
  obtain ⟨l, h1, rfl, h3⟩ := h
  exact Nat.lt_of_lt_of_le (val_lt l h1.2) (Nat.pow_le_pow_right (by omega) h3)
theorem Num.of {w : World} {v : Value} {l : List Nat} {L : Nat} (h : NatAt w v l) (hl : l.length ≤ L) : Num w v (val l) L := ⟨l, h, rfl, hl⟩
theorem Num.wider {w : World} {v : Value} {n L L' : Nat} (h : Num w v n L) (hl : L ≤ L') : Num w v n L' := by
  obtain ⟨l, h1, h2, h3⟩ := h; exact ⟨l, h1, h2, Nat.le_trans h3 hl⟩
theorem Nrm.wider {w : World} {v : Value} {n L L' : Nat} (h : Nrm w v n L) (hl : L ≤ L') : Nrm w v n L' := ⟨h.1, Nat.lt_of_lt_of_le h.2 (Nat.pow_le_pow_right (by omega) hl)⟩
theorem Nrm.len {w : World} {v : Value} {n L : Nat} (h : Nrm w v n L) : (limbs n).length ≤ L := limbs_len_le n L h.2

theorem lt_add {n m L M : Nat} (h1 : n < 4294967296 ^ L) (h2 : m < 4294967296 ^ M) (hLM : L ≤ M) : n + m < 4294967296 ^ (M + 1) := by
  have : 4294967296 ^ L ≤ 4294967296 ^ M := Nat.pow_le_pow_right (by omega) hLM
  rw [Nat.pow_succ]; omega
theorem lt_mul {n m L M : Nat} (h1 : n < 4294967296 ^ L) (h2 : m < 4294967296 ^ M) : n * m < 4294967296 ^ (L + M) := by
  rw [Nat.pow_add]; exact Nat.mul_lt_mul_of_lt_of_le h1 (Nat.le_of_lt h2) (Nat.pow_pos (by omega))

theorem add_num {va vb : Value} {n m L : Nat} {w : World} (ha : Num w va n L) (hb : Num w vb m L) (hL : L ≤ 1000000) :
    Calls Try.prog 77 #[va, vb] w fun e w' => ∃ v', e = .returned v' ∧ Nrm w' v' (n + m) (L + 1) ∧ Below w.heap.size w w' := by
  have hn := ha.lt
  have hm := hb.lt
  obtain ⟨a, h1, rfl, h3⟩ := ha
  obtain ⟨b, k1, rfl, k3⟩ := hb
  refine (add_any va vb a b w h1 k1 (by omega) (by omega)).mono ?_
  rintro e w1 ⟨v1, rfl, hv1, hb1⟩
  exact ⟨v1, rfl, ⟨hv1, lt_add hn hm (Nat.le_refl _)⟩, hb1⟩

theorem mul_num {va vb : Value} {n m L M : Nat} {w : World} (ha : Num w va n L) (hb : Num w vb m M) (hL : L ≤ 1000000) (hM : M ≤ 1000000) :
    Calls Try.prog 30 #[va, vb] w fun e w' => ∃ v', e = .returned v' ∧ Nrm w' v' (n * m) (L + M) ∧ Below w.heap.size w w' := by
  have hn := ha.lt
  have hm := hb.lt
  obtain ⟨a, h1, rfl, h3⟩ := ha
  obtain ⟨b, k1, rfl, k3⟩ := hb
  refine (mul_any va vb a b w h1 k1 (by omega) (by omega)).mono ?_
  rintro e w1 ⟨v1, rfl, hv1, hb1⟩
  exact ⟨v1, rfl, ⟨hv1, lt_mul hn hm⟩, hb1⟩

theorem cmp_num {va vb : Value} {n m L M : Nat} {w : World} (ha : Num w va n L) (hb : Num w vb m M) (hL : L ≤ 1000000) (hM : M ≤ 1000000) :
    Calls Try.prog 29 #[va, vb] w fun e w' => e = .returned (.int .i64 (cmpN n m)) ∧ Below w.heap.size w w' := by
  obtain ⟨a, h1, rfl, h3⟩ := ha
  obtain ⟨b, k1, rfl, k3⟩ := hb
  exact cmp_any va vb a b w h1 k1 (by omega) (by omega)

theorem sub_ge {va vb : Value} {n m L M : Nat} {w : World} (ha : Num w va n L) (hb : Num w vb m M) (hL : L ≤ 1000000) (hM : M ≤ 1000000) (hnm : m ≤ n) :
    Calls Try.prog 78 #[va, vb] w fun e w' => ∃ v', e = .returned (.tuple #[v', .bool true]) ∧ Nrm w' v' (n - m) L ∧ Below w.heap.size w w' := by
  have hn := ha.lt
  obtain ⟨a, h1, rfl, h3⟩ := ha
  obtain ⟨b, k1, rfl, k3⟩ := hb
  refine (sub_any va vb a b w h1 k1 (by omega) (by omega)).mono ?_
  rintro e w1 ⟨h, hb1⟩
  unfold SubRet at h
  rw [if_pos hnm] at h
  obtain ⟨v1, rfl, hv1⟩ := h
  exact ⟨v1, rfl, ⟨hv1, Nat.lt_of_le_of_lt (Nat.sub_le _ _) hn⟩, hb1⟩

theorem sub_lt {va vb : Value} {n m L M : Nat} {w : World} (ha : Num w va n L) (hb : Num w vb m M) (hL : L ≤ 1000000) (hM : M ≤ 1000000) (hnm : n < m) :
    Calls Try.prog 78 #[va, vb] w fun e w' => e = .returned (.tuple #[.slice none 0 0, .bool false]) ∧ Below w.heap.size w w' := by
  obtain ⟨a, h1, rfl, h3⟩ := ha
  obtain ⟨b, k1, rfl, k3⟩ := hb
  refine (sub_any va vb a b w h1 k1 (by omega) (by omega)).mono ?_
  rintro e w1 ⟨h, hb1⟩
  unfold SubRet at h
  rw [if_neg (by omega)] at h
  exact ⟨h, hb1⟩

theorem norm_num {va : Value} {n L : Nat} {w : World} (ha : Num w va n L) (hL : L ≤ 1000000) :
    Calls Try.prog 45 #[va] w fun e w' => ∃ v', e = .returned v' ∧ Nrm w' v' n L ∧ Below w.heap.size w w' := by
  have hn := ha.lt
  obtain ⟨a, h1, rfl, h3⟩ := ha
  refine (norm_any va a w h1 (by omega)).mono ?_
  rintro e w1 ⟨v1, rfl, hv1, hb1⟩
  exact ⟨v1, rfl, ⟨hv1, hn⟩, hb1⟩

theorem nrm_of {n L : Nat} {w : World} (hn : n < 18446744073709551616) (hL : 2 ≤ L) :
    Calls Try.prog 31 #[.int .u64 n] w fun e w' => ∃ v', e = .returned v' ∧ Nrm w' v' n L ∧ Below w.heap.size w w' := by
  refine (of_any n w hn).mono ?_
  rintro e w1 ⟨v1, rfl, hv1, hb1⟩
  exact ⟨v1, rfl, ⟨hv1, Nat.lt_of_lt_of_le (show n < 4294967296 ^ 2 by omega) (Nat.pow_le_pow_right (by omega) hL)⟩, hb1⟩

end Go.Proofs.Ytlhkjkhbgebgiaa

namespace Go.Proofs.Ytlhkjkhbgebgiaa
open Go.RowKit Go.Proofs.Kit Go.Proofs.Nums

theorem eqN_num {n m : Nat} : eqN (limbs n) (limbs m) = decide (n = m) := by
  unfold eqN
  by_cases h : n = m
  · rw [h]; simp
  · rw [decide_eq_false h, decide_eq_false_iff_not]
    intro h'
    apply h
    rw [← val_limbs n, h', val_limbs]

theorem eq_num {va vb : Value} {n m L M : Nat} {w : World} (ha : Nrm w va n L) (hb : Nrm w vb m M) (hL : L ≤ 1000000) (hM : M ≤ 1000000) (h : n = m) :
    Calls Try.prog 62 #[va, vb] w fun e w' => e = .returned (.bool true) ∧ Below w.heap.size w w' := by
  have := req_any va vb _ _ w ha.1 hb.1 (Nat.le_trans ha.len hL) (Nat.le_trans hb.len hM)
  rw [eqN_num, decide_eq_true h] at this; exact this

end Go.Proofs.Ytlhkjkhbgebgiaa

namespace Go.Proofs.Ytlhkjkhbgebgiaa
open Go.RowKit Go.Proofs.Kit Go.Proofs.Nums

/-- The length in bits of a number of L limbs. -/
theorem num_bits {w : World} {v : Value} {n L : Nat} (h : Num w v n L) : (bitsN n).length ≤ 32 * L := by
  refine bits_len_le _ _ ?_
  have := h.lt
  rw [base_pow] at this; exact this

theorem from_num {v : Value} {n L : Nat} {w : World} (h : Num w v n L) (hL : L ≤ 1000) :
    Calls Try.prog 37 #[v] w fun e w' => ∃ v', e = .returned v' ∧ BitAt w' v' (bitsN n) ∧ Below w.heap.size w w' := by
  obtain ⟨a, h1, rfl, h3⟩ := h
  exact from_any v a w h1 (by omega)

theorem cmp_less {va vb : Value} {n m L M : Nat} {w : World} (ha : Num w va n L) (hb : Num w vb m M) (hL : L ≤ 1000000) (hM : M ≤ 1000000) (h : n < m) :
    Calls Try.prog 29 #[va, vb] w fun e w' => e = .returned (.int .i64 (-1)) ∧ Below w.heap.size w w' := by
  have := cmp_num ha hb hL hM
  rw [cmpN_lt h] at this; exact this

theorem cmp_same {va vb : Value} {n m L M : Nat} {w : World} (ha : Num w va n L) (hb : Num w vb m M) (hL : L ≤ 1000000) (hM : M ≤ 1000000) (h : n = m) :
    Calls Try.prog 29 #[va, vb] w fun e w' => e = .returned (.int .i64 0) ∧ Below w.heap.size w w' := by
  have := cmp_num ha hb hL hM
  rw [cmpN_eq h] at this; exact this

theorem cmp_ge {va vb : Value} {n m L M : Nat} {w : World} (ha : Num w va n L) (hb : Num w vb m M) (hL : L ≤ 1000000) (hM : M ≤ 1000000) (h : m ≤ n) :
    Calls Try.prog 29 #[va, vb] w fun e w' => ∃ c : Int, 0 ≤ c ∧ c ≤ 1 ∧ e = .returned (.int .i64 c) ∧ Below w.heap.size w w' :=
  (cmp_num ha hb hL hM).mono fun e w' ⟨h1, h2⟩ => ⟨cmpN n m, by unfold cmpN; rw [if_neg (by omega)]; split <;> omega, by unfold cmpN; rw [if_neg (by omega)]; split <;> omega, h1, h2⟩


end Go.Proofs.Ytlhkjkhbgebgiaa
