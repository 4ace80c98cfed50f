import Derived.Test.YtlhkjkhbgebgiaaMB
import Derived.ProofKit
import Derived.OpenShut
import Derived.ChangeSlices
import Derived.WideShapes
namespace Go.Proofs.Ytlhkjkhbgebgiaa
open Go.ChangeShapes Go.WideShapes Go.ChangeAt Go.RowKit Go.Proofs.Kit Go.Proofs.Nums

/-- A number whose bits are few enough. -/
def Sm (n : Nat) : Prop := (bitsN n).length ≤ 50000

theorem sm_limbs {l : List Nat} (h : Lim l) (hl : l.length ≤ 1000) : Sm (val l) := by
  unfold Sm
  refine Nat.le_trans (bits_len_le (val l) (32 * l.length) ?_) (by omega)
  rw [← base_pow]; exact val_lt l h

theorem bits_val_len {l : List Nat} {k : Nat} (h : Lim l) (hl : l.length ≤ k) : (bitsN (val l)).length ≤ 32 * k := by
  refine Nat.le_trans (bits_len_le (val l) (32 * l.length) ?_) (by omega)
  rw [← base_pow]; exact val_lt l h

theorem bits_lt {n p : Nat} (h : (bitsN n).length ≤ p) : n < 2 ^ p := Nat.lt_of_lt_of_le (bits_lt_pow n) (Nat.pow_le_pow_right (by omega) h)

theorem len_add {n m p : Nat} (h1 : (bitsN n).length ≤ p) (h2 : (bitsN m).length ≤ p) : (bitsN (n + m)).length ≤ p + 1 := by
  apply bits_len_le
  have := bits_lt h1
  have := bits_lt h2
  rw [Nat.pow_succ]; omega

theorem len_mul {n m p q : Nat} (h1 : (bitsN n).length ≤ p) (h2 : (bitsN m).length ≤ q) : (bitsN (n * m)).length ≤ p + q := by
  apply bits_len_le
  have h3 := bits_lt h1
  have h4 := bits_lt h2
  rw [Nat.pow_add]
  exact Nat.mul_lt_mul_of_lt_of_le h3 (Nat.le_of_lt h4) (Nat.pow_pos (by omega))

theorem sm_limb_len {n : Nat} (h : Sm n) : (limbs n).length ≤ 50000 := by
  refine Nat.le_trans (limbs_len_le n (bitsN n).length ?_) h
  exact Nat.lt_of_lt_of_le (bits_lt_pow n) (Nat.pow_le_pow_left (by omega) _)

theorem rcmp_n (va vb : Value) (n m : Nat) (w : World) (ha : BitAt w va (bitsN n)) (hb : BitAt w vb (bitsN m)) (h1 : Sm n) (h2 : Sm m) :
    Calls Try.prog 38 #[va, vb] w fun e w' => e = .returned (.int .i64 (cmpN n m)) ∧ Below w.heap.size w w' := by
  have := rcmp_any va vb _ _ w ha hb (Nat.le_trans h1 (by omega)) (Nat.le_trans h2 (by omega))
  rw [bval_bits, bval_bits] at this; exact this

theorem radd_n (va vb : Value) (n m : Nat) (w : World) (ha : BitAt w va (bitsN n)) (hb : BitAt w vb (bitsN m)) (h1 : Sm n) (h2 : Sm m) :
    Calls Try.prog 51 #[va, vb] w fun e w' => ∃ v', e = .returned v' ∧ BitAt w' v' (bitsN (n + m)) ∧ Below w.heap.size w w' := by
  have := radd_any va vb _ _ w ha hb (Nat.le_trans h1 (by omega)) (Nat.le_trans h2 (by omega))
  rw [bval_bits, bval_bits] at this; exact this

theorem bits_len_mono {n m : Nat} (h : m ≤ n) : (bitsN m).length ≤ (bitsN n).length := bits_len_le m _ (Nat.lt_of_le_of_lt h (bits_lt_pow n))

theorem rsub_n (va vb : Value) (n m : Nat) (w : World) (ha : BitAt w va (bitsN n)) (hb : BitAt w vb (bitsN m)) (h1 : Sm n) (h2 : m ≤ n) :
    Calls Try.prog 76 #[va, vb] w fun e w' => ∃ v', e = .returned v' ∧ BitAt w' v' (bitsN (n - m)) ∧ Below w.heap.size w w' := by
  have := rsub_any va vb _ _ w ha hb (Nat.le_trans h1 (by omega)) (by rw [bval_bits, bval_bits]; exact h2) (by rw [List.take_of_length_le (bits_len_mono h2)])
  rw [bval_bits, bval_bits] at this; exact this

theorem eqN_self (l : List Nat) : eqN l l = true := by unfold eqN; exact decide_eq_true rfl

theorem sm_le {n m : Nat} (h : m ≤ n) (hn : Sm n) : Sm m := Nat.le_trans (bits_len_mono h) hn

set_option maxRecDepth 100000 in
/-- An argument of type api.Nat. -/
theorem nat_open {H : Type} {enc : TypeId × Value → H} {v : Value} {d : DataW H} {p : List MemPlace} {base : Nat} {W : World} (hv : Value.okWide Try.prog W .any base 28 v)
    (h : DataW.Trod enc Try.prog W 0 (fun _ => true) true 28 v d p) : ∃ l, NatAt W v l := by
  obtain ⟨a, len, cap, rfl⟩ := okWide_slice Try.underlying28 hv
  obtain ⟨m, hm⟩ := h
  rcases open_ints Try.underlying28 Try.underlying41 (by kernel_rfl) hm with ⟨hcs, _⟩ | ⟨x, l, c, zs, hcs, _, hl, hmx, hz, _, hcell, hwz⟩
  · obtain ⟨rfl, rfl, rfl⟩ : a = none ∧ len = 0 ∧ cap = 0 := by
      have : Value.slice a len cap = .slice none 0 0 := List.head_eq_of_cons_eq hcs
      simpa using this
    exact ⟨[], NatAt.nil W⟩
  · obtain ⟨rfl, rfl, rfl⟩ : a = some x ∧ len = l ∧ cap = c := by
      have : Value.slice a len cap = .slice (some x) l c := List.head_eq_of_cons_eq hcs
      simpa using this
    have hz' : zs.length = cap := by simpa using hz
    have hw : ∀ z ∈ zs, 0 ≤ z ∧ z < 4294967296 := fun z hzz => by
      have := hwz z hzz
      simp [Lit.wf] at this
      have e1 : IntKind.u32.min = 0 := by decide
      have e2 : IntKind.u32.max = 4294967295 := by decide
      omega
    refine ⟨(zs.take len).map Int.toNat, ⟨some x, cap, ?_, ?_, ?_, ?_, ?_⟩, ?_⟩
    · simp; omega
    · simp; omega
    · unfold maxLen at hmx; omega
    · simp
    · rintro q hq i u hu
      simp only [Option.some.injEq] at hq
      subst hq
      rw [List.getElem?_map, List.getElem?_map] at hu
      by_cases hi : i < (zs.take len).length
      · rw [List.getElem?_eq_getElem hi] at hu
        simp only [Option.map_some, Option.some.injEq] at hu
        have hil : i < zs.length := by rw [List.length_take] at hi; omega
        rw [hcell i hil, ← hu]
        have e : zs.getD i 0 = zs[i] := by rw [List.getD_eq_getElem?_getD, List.getElem?_eq_getElem hil]; rfl
        have := hw zs[i] (List.getElem_mem hil)
        rw [e, List.getElem_take]
        unfold limbV
        rw [Int.toNat_of_nonneg this.1]
      · rw [List.getElem?_eq_none (by omega)] at hu; simp at hu
    · intro y hy
      obtain ⟨z, hzm, rfl⟩ := List.mem_map.1 hy
      have := hw z (List.mem_of_mem_take hzm)
      omega

end Go.Proofs.Ytlhkjkhbgebgiaa
