import Derived.Test.YteobjelenfjifaaDoorOb
import Derived.Laws.Bits64b
namespace Go.Proofs.YteobjelenfjifaaDoor
open Go.RowKit Go.Proofs.Kit Go.Proofs.Nums

theorem limbs2 {N : Nat} (h : N < 18446744073709551616) : (limbs N).length ≤ 2 := limbs_len_le N 2 (by omega)
theorem limbs3 {N : Nat} (h : 18446744073709551616 ≤ N) : 2 < (limbs N).length := by
  by_cases h2 : 2 < (limbs N).length
  · exact h2
  · exfalso
    have h3 := limbs_lt_pow N
    have h4 : 4294967296 ^ (limbs N).length ≤ 4294967296 ^ 2 := Nat.pow_le_pow_right (by omega) (by omega)
    omega

theorem or_high {x y : Nat} (hx : x < 4294967296) (hy : y < 4294967296) : Go.bits .or .u64 (x : Int) ((y : Int) * 4294967296) = ((x + 4294967296 * y : Nat) : Int) := by
  have h := Nat.two_pow_add_eq_or_of_lt (i := 32) (b := x) (by omega) y
  rw [show ((y : Int) * 4294967296) = ((y * 4294967296 : Nat) : Int) by omega, Go.bits_or_u64_nat _ _ (by omega) (by omega)]
  rw [Nat.or_comm, show y * 4294967296 = 2 ^ 32 * y by omega, ← h]
  congr 1; omega

theorem or_low {x : Nat} (hx : x < 4294967296) : Go.bits .or .u64 (0 : Int) (x : Int) = (x : Int) := by
  have := Go.bits_or_u64_nat 0 x (by omega) (by omega)
  rw [Nat.zero_or] at this; exact this

set_option maxHeartbeats 2000000 in
theorem u64_big (v : Value) (a : List Nat) (w : World) (ha : NatAt w v a) (hN : 18446744073709551616 ≤ val a) :
    Calls Tryd.prog 15 #[v] w fun e w' => e = .returned (.tuple #[.int .u64 0, .bool false]) ∧ w = w' := by
  have C := Lib.hid (trim_any v a w ha)
  have hl := limbs3 hN
  clear ha hN
  go_enter Tryd.func15, Tryd.ntmps15
  go_wp2_with (go_at_call 40; ((with_reducible refine C.out.mono ?_); rintro e w1 ⟨v1, rfl, hv1, rfl⟩; obtain ⟨p1, c1, rfl⟩ := hv1.shape))
  go_ret2
  exact ⟨rfl, rfl⟩

set_option maxHeartbeats 2000000 in
theorem u64_small (v : Value) (a : List Nat) (w : World) (ha : NatAt w v a) (hN : val a < 18446744073709551616) :
    Calls Tryd.prog 15 #[v] w fun e w' => e = .returned (.tuple #[.int .u64 (val a : Nat), .bool true]) ∧ Below w.heap.size w w' := by
  have hl := limbs2 hN
  obtain ⟨N, hNN⟩ : ∃ N, val a = N := ⟨_, rfl⟩
  have c := trim_any v a w ha
  rw [hNN] at hl c ⊢
  obtain ⟨y, hy⟩ : ∃ y, limbs N = y := ⟨_, rfl⟩
  have hyv : Hid (val y = N) := Lib.hid (by rw [← hy, val_limbs])
  rw [hy] at hl c
  have C := Lib.hid c
  clear ha hN hNN c hy
  go_enter Tryd.func15, Tryd.ntmps15
  go_wp2_with (go_at_call 40; ((with_reducible refine C.out.mono ?_); rintro e w1 ⟨v1, rfl, hv1, rfl⟩; obtain ⟨p1, c1, rfl⟩ := hv1.shape))
  have V1 := Lib.hid hv1
  clear hv1 C
  go_loopw [4, 14] (fun nv i wr => ∃ k : Nat, ∃ s : Nat, k ≤ y.length ∧ i = .int .i64 k ∧ nv = .int .u64 s ∧ Hid (s = val (y.take k)) ∧ (∃ n, wr = w.drewN n)) (fun _ i _ => y.length - (intOf i).toNat)
  case atStart => exact ⟨0, 0, by omega, rfl, rfl, Lib.hid (by simp [val]), ⟨0, rfl⟩⟩
  case round =>
    obtain ⟨k, s, hk, rfl, rfl, hP, ⟨n, rfl⟩⟩ := hrel
    by_cases hlt : k < y.length
    · rcases (V1.out.keep (below_drewN (Below.refl _ _) n)).cases with ⟨hx0, _⟩ | ⟨_, b1, o1, k1, hv1, hk1, hm1, hbb, hcell1⟩
      · rw [hx0] at hlt; simp at hlt
      simp only [Value.slice.injEq] at hv1
      obtain ⟨rfl, _, rfl⟩ := hv1
      have q1 := hcell1 k hlt
      have hxk := V1.out.2.nth k
      have ht := val_take_succ y k
      clear hcell1
      have hk2 : k = 0 ∨ k = 1 := by omega
      rcases hk2 with rfl | rfl
      · have hs : s = 0 := by have := hP.out; simpa [val] using this
        subst hs
        have ho := or_low hxk
        have HT : Hid (nth y 0 = val (y.take (0 + 1))) := Lib.hid (by rw [ht]; simp [val])
        clear ht
        rw [Nat.add_zero] at q1
        go_wp2_with fail
        go_roundw
        case rel => exact ⟨1, nth y 0, by omega, by go_num, by first | rfl | (congr 1) | (rw [ho]), HT, ⟨n, rfl⟩⟩
        case measure => simp [intOf] <;> omega
      · have hs : s < 4294967296 := by
          have h1 := val_take_lt y V1.out.2 1 (by omega)
          rw [← hP.out] at h1; omega
        have ho := or_high hs hxk
        have HT : Hid (s + 4294967296 * nth y 1 = val (y.take (1 + 1))) := Lib.hid (by rw [ht, ← hP.out] <;> omega)
        clear ht
        go_wp2_with fail
        go_roundw
        case rel => exact ⟨2, s + 4294967296 * nth y 1, by omega, by go_num, by first | rfl | (rw [ho]), HT, ⟨n, rfl⟩⟩
        case measure => simp [intOf] <;> omega
    · obtain rfl : k = y.length := by omega
      have HR : Hid (s = N) := Lib.hid (by rw [hP.out, List.take_length, hyv.out])
      go_wp2_with fail
      go_ret2
      exact ⟨by rw [HR.out]; rfl, below_drewN (Below.refl _ _) _⟩

end Go.Proofs.YteobjelenfjifaaDoor
