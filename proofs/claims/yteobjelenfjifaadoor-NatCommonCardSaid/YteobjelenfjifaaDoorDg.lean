import Derived.Test.YteobjelenfjifaaDoorDe
import Derived.Laws.Bits64b
namespace Go.Proofs.YteobjelenfjifaaDoor
open Go.RowKit Go.Proofs.Kit Go.Proofs.Nums

theorem pow_cast (s : Nat) : (2 : Int) ^ s = ((2 ^ s : Nat) : Int) := by rw [Int.natCast_pow]; rfl

theorem shl_lt {x s : Nat} (hx : x < 4294967296) (hs : s < 32) : x * 2 ^ s < 18446744073709551616 := by
  have h1 : 2 ^ s ≤ 2 ^ 32 := Nat.pow_le_pow_right (by omega) (by omega)
  have h2 : x * 2 ^ s ≤ 4294967295 * 2 ^ 32 := Nat.mul_le_mul (by omega) h1
  omega

set_option maxHeartbeats 4000000 in
theorem left_any (v : Value) (a : List Nat) (s : Nat) (w : World) (ha : NatAt w v a) (hla : a.length ≤ 1000000) (hs : s < 32) :
    Calls Tryd.prog 53 #[v, .int .i64 s] w fun e w' => ∃ o, e = .returned (.slice (some ⟨w.heap.size, 0, none⟩) (a.length + 1) (a.length + 1)) ∧ OwnNat w' w.heap.size w.heap.size (a.length + 1) (a.length + 1) o ∧ Hid (val o = val a * 2 ^ s) ∧ Below w.heap.size w w' := by
  obtain ⟨p1, c1, rfl⟩ := ha.shape
  have HA := Lib.hid ha
  clear ha
  go_enter Tryd.func53, Tryd.ntmps53
  go_wp2_with (at_make; go_must (refine make_any er24 rfl rfl rfl rfl (by omega) (by omega) (by omega) ?_); intro w3 hown3 hb3)
  rw [show ((a.length : Int) + 1).toNat = a.length + 1 by omega] at *
  have hown := OwnNat.made hown3
  clear hown3
  go_loopw [15] (fun i wr => ∃ k : Nat, ∃ o : List Nat, k ≤ a.length ∧ i = .int .i64 k ∧ OwnNat wr w.heap.size w.heap.size (a.length + 1) (a.length + 1) o ∧ Below w.heap.size w wr ∧
      Hid (val o = val (a.take k) * 2 ^ s)) (fun i _ => a.length - (intOf i).toNat)
  case atStart => exact ⟨0, _, by omega, rfl, hown, hb3, Lib.hid (by rw [val_zeros]; simp [val])⟩
  case round =>
    obtain ⟨k, o, hk, rfl, hO, hbel, hP⟩ := hrel
    by_cases hlt : k < a.length
    · rcases (HA.out.keep hbel).cases with ⟨hx0, _⟩ | ⟨_, b1, o1, k1, hv1, hk1, hm1, hbb, hcell1⟩
      · rw [hx0] at hlt; simp at hlt
      simp only [Value.slice.injEq] at hv1
      obtain ⟨rfl, _, rfl⟩ := hv1
      have q1 := hcell1 k hlt
      have hxk := HA.out.2.nth k
      clear hcell1
      have hinv := left_inv HA.out.2 hlt hs hO.1 hP.out
      have hst := left_step HA.out.2 hlt hs hO.1 hP.out
      have hsum := left_sum (x := nth a k) (show s ≤ 32 by omega) hinv.1
      have hor := left_or (x := nth a k) (show s ≤ 32 by omega) hinv.1
      have hhi := left_high (s := s) hxk
      have hsl := shl_lt hxk hs
      have hp2 := pow_lt32 hs
      obtain ⟨X, hX⟩ : ∃ X, nth a k * 2 ^ s = X := ⟨_, rfl⟩
      have hXi : (nth a k : Int) * 2 ^ s = (X : Int) := by rw [pow_cast, ← hX, Int.natCast_mul]
      rw [hX] at hst hsum hor hhi hsl
      have hxo := hO.2.1.nth k
      have hc1 := hO.cell (j := k) (by omega)
      have hc2 := hO.cell (j := k + 1) (by omega)
      have hf1 := hO.free k
      have hf2 := hO.free (k + 1)
      have hput := hO.put k (nth o k + X % 4294967296) hsum
      have hput2 := hput.1.put (k + 1) (X / 4294967296) (by omega)
      have e1 : Go.bits BinOp.or IntKind.u32 (nth o k : Int) ((X : Int) % 4294967296) = ((nth o k + X % 4294967296 : Nat) : Int) := by
        rw [show ((X : Int) % 4294967296) = ((X % 4294967296 : Nat) : Int) by omega, or_u32 _ _ hxo (Nat.mod_lt _ (by omega)), hor]
      have e2 : (X : Int) / 4294967296 % 4294967296 = ((X / 4294967296 : Nat) : Int) := by omega
      have HO := Lib.hid hO
      have HST := Lib.hid hst
      have HPUT := Lib.hid hput
      have HPUT2 := Lib.hid hput2
      clear hO hst hput hput2 hor hinv hX
      go_wp2_with fail
      go_roundw
      case rel =>
        exact ⟨k + 1, _, by omega, by go_num, HPUT2.out.1, (hbel.trans HPUT.out.2).trans HPUT2.out.2, HST⟩
      case measure => simp [intOf] <;> omega
    · obtain rfl : k = a.length := by omega
      have hv : Hid (val o = val a * 2 ^ s) := Lib.hid (by have := hP.out; rw [List.take_length] at this; exact this)
      have HO := Lib.hid hO
      clear hO
      go_wp2_with fail
      go_ret
      exact ⟨o, rfl, HO.out, hv, hbel⟩

end Go.Proofs.YteobjelenfjifaaDoor
