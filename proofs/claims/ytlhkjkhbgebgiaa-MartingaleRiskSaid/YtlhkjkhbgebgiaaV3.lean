/- electionmake.Mod; the greatest common divisor and fractions of the reference. -/
import Derived.Test.YtlhkjkhbgebgiaaV1
import Derived.Test.YtlhkjkhbgebgiaaR7
import Derived.Test.YtlhkjkhbgebgiaaM4
namespace Go.Proofs.Nums

theorem tmod_abs (x n : Int) (hn : 0 < n) : -n < x.tmod n ∧ x.tmod n < n := by
  have h : (x.tmod n).natAbs = x.natAbs % n.natAbs := Int.natAbs_tmod x n
  have h2 : x.natAbs % n.natAbs < n.natAbs := Nat.mod_lt _ (by omega)
  omega
theorem mod_plain (x n : Int) (hn : 0 < n) : (x.tmod n + n).tmod n = x % n := by
  have h := tmod_abs x n hn
  rw [Int.tmod_eq_emod_of_nonneg (by omega), Int.add_emod_right]
  have e : x.tmod n = x - n * x.tdiv n := by have := Int.mul_tdiv_add_tmod x n; omega
  rw [e, Int.sub_mul_emod_self_left]

end Go.Proofs.Nums
namespace Go.Proofs.Ytlhkjkhbgebgiaa
open Go.RowKit Go.Proofs.Kit Go.Proofs.Nums

set_option maxHeartbeats 1000000 in
theorem mod_c (x n : Int) (hn : 1 ≤ n) (hn2 : n ≤ 1000000) (w : World) :
    Calls Try.prog 16 #[.int .i64 x, .int .i64 n] w fun e w' => e = .returned (.int .i64 (x % n)) ∧ w = w' := by
  have h := tmod_abs x n (by omega)
  have hp := mod_plain x n (by omega)
  obtain ⟨r, hr⟩ : ∃ r, x.tmod n = r := ⟨_, rfl⟩
  rw [hr] at h hp
  obtain ⟨q, hq⟩ : ∃ q, (r + n).tmod n = q := ⟨_, rfl⟩
  rw [hq] at hp
  rw [← hp]
  obtain ⟨h1, h2⟩ := h
  have z1 : ¬ n = 0 := by omega
  have z2 : (n == 0) = false := by rw [beq_eq_false_iff_ne]; omega
  have z3 : 0 ≤ r + n := by omega
  have z4 : r + n ≤ 2000000 := by omega
  clear hp
  go_enter Try.func16, Try.ntmps16
  go_wp2_with fail
  go_ret
  exact ⟨rfl, rfl⟩

set_option maxHeartbeats 2000000 in
theorem gcd_c (a b : Nat) (ha : a ≤ 1000000) (hb : b ≤ 1000000) (w : World) :
    Calls Try.prog 32 #[.int .i64 a, .int .i64 b] w fun e w' => e = .returned (.int .i64 (Nat.gcd a b : Nat)) ∧ Below w.heap.size w w' := by
  go_enter Try.func32, Try.ntmps32
  go_wp2_with fail
  go_loopw [0, 1] (fun av bv wr => ∃ x y : Nat, x ≤ 1000000 ∧ y ≤ 1000000 ∧ av = .int .i64 x ∧ bv = .int .i64 y ∧ Below w.heap.size w wr ∧ Hid (Nat.gcd x y = Nat.gcd a b)) (fun _ bv _ => (intOf bv).toNat)
  case atStart => exact ⟨a, b, ha, hb, rfl, rfl, Below.refl _ _, Lib.hid rfl⟩
  case round =>
    obtain ⟨x, y, hx, hy, rfl, rfl, hbel, hP⟩ := hrel
    by_cases h0 : 0 < y
    · have hlt : x % y < y := Nat.mod_lt _ h0
      have hm : (x : Int).tmod (y : Int) = ((x % y : Nat) : Int) := by
        rw [Int.tmod_eq_emod_of_nonneg (by omega)]
        exact (Int.natCast_emod x y).symm
      obtain ⟨r, hr⟩ : ∃ r, x % y = r := ⟨_, rfl⟩
      rw [hr] at hm hlt
      have HG : Hid (Nat.gcd y r = Nat.gcd a b) := Lib.hid (by rw [← hr, ← hP.out, Nat.gcd_comm x y, Nat.gcd_rec y x, Nat.gcd_comm])
      have z1 : ¬ (y : Int) = 0 := by omega
      have z2 : ((y : Int) == 0) = false := by rw [beq_eq_false_iff_ne]; omega
      have z3 : ¬ y = 0 := by omega
      clear hr
      go_wp2_with fail
      go_region
      all_goals go_wp2_with fail
      all_goals go_roundw
      case rel => exact ⟨y, r, hy, by omega, rfl, rfl, hbel.drew, HG⟩
      case measure => simp [intOf] <;> omega
    · obtain rfl : y = 0 := by omega
      have e : Hid (x = Nat.gcd a b) := Lib.hid (by rw [← hP.out, Nat.gcd_zero_right])
      go_wp2_with fail
      go_ret
      exact ⟨by rw [← e.out]; rfl, hbel⟩

set_option maxHeartbeats 2000000 in
theorem limbs_c (n : Nat) (hn : n < 4294967296) (w : World) :
    Calls Try.prog 33 #[.int .i64 n] w fun e w' => ∃ p l k, e = .returned (.slice p l k) ∧ Nrm w' (.slice p l k) n 2 ∧ Below w.heap.size w w' := by
  go_enter Try.func33, Try.ntmps33
  go_wp2_with fail
  go_loopw [3, 4] (fun ov xv wr => ∃ m k : Nat, ∃ o : List Nat, m ≤ n ∧ k ≤ 1 ∧ (m ≠ 0 → k = 0) ∧ xv = .int .u64 m ∧ wr.ownsRow w.heap.size 41 1 ov k (o.map limbV) ∧ Below w.heap.size w wr ∧ Hid (limbs n = o ++ limbs m)) (fun _ xv _ => (intOf xv).toNat)
  case atStart => exact ⟨n, 0, [], Nat.le_refl _, by omega, fun _ => rfl, rfl, World.ownsRow_nil _ _ _ _, Below.refl _ _, Lib.hid rfl⟩
  case round =>
    obtain ⟨m, k, o, hm, hk, hk0, rfl, hown, hbel, hP⟩ := hrel
    by_cases h0 : 0 < m
    · have hkk := hk0 (by omega)
      have hml : m < 4294967296 := by omega
      have hm2 : m % 4294967296 = m := Nat.mod_eq_of_lt hml
      have hm3 : m / 4294967296 = 0 := Nat.div_eq_of_lt hml
      have HS : Hid (limbs n = (o ++ [m]) ++ limbs 0) := Lib.hid (by rw [hP.out, limbs_pos m (by omega), hm2, hm3, List.append_assoc]; rfl)
      clear hm2 hm3
      go_wp2_with (at_builtin; go_must (refine append_one er28 rfl rfl hown rfl rfl rfl (by simp [Value.oneCell']) (by omega) (by omega) hbel.size ?_); intro v' w1 hown1 _ hb1 hne1)
      go_roundw
      case rel =>
        refine ⟨0, k + 1, o ++ [m], by omega, by omega, fun h => absurd rfl h, by go_num, ?_, hbel.trans hb1, HS⟩
        rw [List.map_append]
        exact hown1
      case measure => simp [intOf] <;> omega
    · obtain rfl : m = 0 := by omega
      have hE : Hid (o = limbs n) := Lib.hid (by rw [hP.out, limbs_zero, List.append_nil])
      have HR := Lib.hid (RowAt.owned hown)
      clear hown
      go_wp2_with fail
      go_ret
      have g : NatAt _ _ (limbs n) := ⟨by rw [← hE.out]; exact HR.out, limbs_lim n⟩
      obtain ⟨p, k2, e2⟩ := g.shape
      subst e2
      exact ⟨_, _, _, rfl, ⟨g, Nat.lt_trans hn (by decide)⟩, hbel⟩

end Go.Proofs.Ytlhkjkhbgebgiaa
