import Derived.Test.YteobjelenfjifaaDoorGA
import Derived.Laws.Bits64b
namespace Go.Proofs.YteobjelenfjifaaDoor
open Go.RowKit Go.Proofs.Kit Go.Proofs.Nums

theorem or_shift {r x : Nat} (hr : r < 4294967296) (hx : x < 4294967296) : Go.bits .or .u64 ((r : Int) * 4294967296) (x : Int) = ((r * 4294967296 + x : Nat) : Int) := by
  have h := Nat.two_pow_add_eq_or_of_lt (i := 32) (b := x) (by omega) r
  rw [show ((r : Int) * 4294967296) = ((r * 4294967296 : Nat) : Int) by omega, Go.bits_or_u64_nat _ _ (by omega) (by omega)]
  rw [show r * 4294967296 = 2 ^ 32 * r by omega, h]

set_option maxHeartbeats 4000000 in
theorem sdiv_any (v : Value) (a : List Nat) (d : Nat) (w : World) (ha : NatAt w v a) (hla : a.length ≤ 1000000) (hd0 : 0 < d) (hd : d < 4294967296) :
    Calls Tryd.prog 47 #[v, .int .u64 d] w fun e w' => ∃ v', e = .returned (.tuple #[v', .int .u64 ((val a % d : Nat) : Int)]) ∧ (∃ q, NatAt w' v' q ∧ val q = val a / d ∧ q.length = a.length ∧ v'.ownBlock = some w.heap.size ∧ w.heap.size < w'.heap.size) ∧ Below w.heap.size w w' := by
  obtain ⟨p1, c1, rfl⟩ := ha.shape
  have HA := Lib.hid ha
  clear ha
  have hnz : ((d : Int) == 0) = false := by rw [beq_eq_false_iff_ne]; omega
  go_enter Tryd.func47, Tryd.ntmps47
  go_wp2_with (at_make; go_must (refine make_any er24 rfl rfl rfl rfl (by omega) (by omega) (by omega) ?_); intro w3 hown3 hb3)
  have hown := OwnNat.made hown3
  clear hown3
  go_loopw [7, 8] (fun rv i wr => ∃ k r : Nat, ∃ o : List Nat, k ≤ a.length ∧ r < d ∧ i = .int .i64 ((k : Int) - 1) ∧ rv = .int .u64 r ∧ OwnNat wr w.heap.size w.heap.size a.length a.length o ∧ Below w.heap.size w wr ∧
      Hid (val (a.drop k) = val (o.drop k) * d + r)) (fun _ i _ => (intOf i + 1).toNat)
  case atStart => exact ⟨a.length, 0, _, by omega, hd0, by go_num, rfl, hown, hb3, Lib.hid (by rw [List.drop_length, List.drop_of_length_le (by simp)]; simp [val])⟩
  case round =>
    obtain ⟨k, r, o, hk, hr, rfl, rfl, hO, hbel, hP⟩ := hrel
    by_cases h0 : 0 < k
    · obtain ⟨m, rfl⟩ : ∃ m, k = m + 1 := ⟨k - 1, by omega⟩
      rcases (HA.out.keep hbel).cases with ⟨hx0, _⟩ | ⟨_, b1, o1, k1, hv1, hk1, hm1, hbb, hcell1⟩
      · rw [hx0] at hk; simp at hk
      simp only [Value.slice.injEq] at hv1
      obtain ⟨rfl, _, rfl⟩ := hv1
      have q1 := hcell1 m (by omega)
      have hxm := HA.out.2.nth m
      clear hcell1
      have hlen := hO.1
      obtain ⟨l1, l2, l3⟩ := sdiv_lt hr hxm hd
      have hST := Lib.hid (sdiv_step (o := o) (a := a) (by omega) (by omega) hP.out)
      have hcell := hO.cell (j := m) (by omega)
      have hfree := hO.free m
      have hput := hO.put m _ l1
      have HO := Lib.hid hO
      have hor := or_shift (r := r) (by omega) hxm
      rw [show ((m + 1 : Nat) : Int) - 1 = (m : Int) by omega]
      clear hO
      go_wp2_with fail
      have e0 : ((r : Int) * 4294967296 + (nth a m : Int)) = ((r * 4294967296 + nth a m : Nat) : Int) := by omega
      have e1 : ((r : Int) * 4294967296 + (nth a m : Int)) % (d : Int) = (((r * 4294967296 + nth a m) % d : Nat) : Int) := by rw [e0, Int.natCast_emod]
      have e2 : ((r : Int) * 4294967296 + (nth a m : Int)) / (d : Int) % 4294967296 = (((r * 4294967296 + nth a m) / d : Nat) : Int) := by
        rw [e0, ← Int.natCast_ediv]
        generalize (r * 4294967296 + nth a m) / d = y at l1 ⊢
        omega
      go_roundw
      case rel =>
        rw [e1, e2]
        exact ⟨m, _, _, by omega, l2, by go_num, rfl, hput.1, hbel.trans hput.2, hST⟩
      case measure => simp [intOf] <;> omega
    · obtain rfl : k = 0 := by omega
      have h1 : Hid (val o = val a / d ∧ val a % d = r) := Lib.hid (by
        have := hP.out
        rw [List.drop_zero, List.drop_zero] at this
        rw [this, Nat.mul_comm, Nat.mul_add_div (by omega), Nat.mul_add_mod]
        exact ⟨by rw [Nat.div_eq_of_lt hr]; rfl, Nat.mod_eq_of_lt hr⟩)
      have HO := Lib.hid hO
      clear hO
      go_wp2_with fail
      go_ret2
      exact ⟨_, by rw [h1.out.2]; rfl, ⟨o, HO.out.read, h1.out.1, HO.out.1, rfl, HO.out.lt.2⟩, hbel⟩

end Go.Proofs.YteobjelenfjifaaDoor
