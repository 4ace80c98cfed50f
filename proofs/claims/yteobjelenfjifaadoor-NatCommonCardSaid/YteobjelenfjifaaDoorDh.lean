import Derived.Test.YteobjelenfjifaaDoorDg
namespace Go.Proofs.YteobjelenfjifaaDoor
open Go.RowKit Go.Proofs.Kit Go.Proofs.Nums

theorem or_hi {x y : Nat} (hx : x < 4294967296) (hy : y < 4294967296) : Go.bits .or .u64 (x : Int) ((y : Int) * 4294967296) = ((x + 4294967296 * y : Nat) : Int) := or_high hx hy

set_option maxHeartbeats 4000000 in
theorem right_any (v : Value) (a : List Nat) (s : Nat) (w : World) (ha : NatAt w v a) (hla : a.length ≤ 1000000) (hs : s < 32) :
    Calls Tryd.prog 55 #[v, .int .i64 s] w fun e w' => ∃ v' o, e = .returned v' ∧ NatAt w' v' o ∧ Hid (val o = val a / 2 ^ s ∧ o.length = a.length) ∧ Below w.heap.size w w' := by
  obtain ⟨p1, c1, rfl⟩ := ha.shape
  have HA := Lib.hid ha
  clear ha
  go_enter Tryd.func55, Tryd.ntmps55
  go_wp2_with (at_make; go_must (refine make_any er24 rfl rfl rfl rfl (by omega) (by omega) (by omega) ?_); intro w3 hown3 hb3)
  rw [Int.toNat_natCast] at hown3
  have hown := OwnNat.made hown3
  clear hown3
  go_loopw [12] (fun i wr => ∃ k : Nat, ∃ o : List Nat, k ≤ a.length ∧ i = .int .i64 k ∧ OwnNat wr w.heap.size w.heap.size a.length a.length o ∧ Below w.heap.size w wr ∧
      Hid (val (o.take k) = val a / 2 ^ s % 4294967296 ^ k)) (fun i _ => a.length - (intOf i).toNat)
  case atStart => exact ⟨0, _, by omega, rfl, hown, hb3, Lib.hid (by simp [val, Nat.mod_one])⟩
  case round =>
    obtain ⟨k, o, hk, rfl, hO, hbel, hP⟩ := hrel
    by_cases hlt : k < a.length
    · have hx0 := HA.out.2.nth k
      have hx1 := HA.out.2.nth (k + 1)
      have LA := Lib.hid (limb_any _ a k wr (HA.out.keep hbel))
      have LB : Hid (Calls Tryd.prog 43 #[.slice p1 a.length c1, .int .i64 ((k : Int) + 1)] wr fun e w' => e = .returned (.int .u64 ((nth a (k + 1) : Nat) : Int)) ∧ wr = w') := Lib.hid (limb_any _ a (k + 1) wr (HA.out.keep hbel))
      have hor := or_hi hx0 hx1
      have hcell := hO.cell (j := k) (by omega)
      have hfree := hO.free k
      have hst := right_step (o := o) (s := s) HA.out.2 (by omega) hlt (by rw [hO.1]; exact hlt) hP.out
      obtain ⟨Y, hY⟩ : ∃ Y, nth a k + 4294967296 * nth a (k + 1) = Y := ⟨_, rfl⟩
      have hY64 : Y < 18446744073709551616 := by omega
      rw [hY] at hst hor
      have hp : 0 < 2 ^ s := Nat.pow_pos (by omega)
      have e1 : (Y : Int) / 2 ^ s % 4294967296 = ((Y / 2 ^ s % 4294967296 : Nat) : Int) := by rw [pow_cast, ← Int.natCast_ediv]; omega
      have hput := hO.put k (Y / 2 ^ s % 4294967296) (Nat.mod_lt _ (by omega))
      have HO := Lib.hid hO
      have HST := Lib.hid hst
      have HPUT := Lib.hid hput
      have E1 := Lib.hid e1
      clear hO hst hput hY e1
      go_wp2_with (first
        | (go_at_call 43; ((with_reducible refine LA.out.mono ?_); rintro e w5 ⟨rfl, rfl⟩))
        | (go_at_call 43; ((with_reducible refine LB.out.mono ?_); rintro e w6 ⟨rfl, rfl⟩)))
      go_roundw
      case rel =>
        exact ⟨k + 1, _, by omega, by go_num, HPUT.out.1, hbel.trans HPUT.out.2, HST⟩
      case measure => simp [intOf] <;> omega
    · obtain rfl : k = a.length := by omega
      have hv : Hid (val o = val a / 2 ^ s ∧ o.length = a.length) := Lib.hid ⟨right_end HA.out.2 hO.1 hP.out, hO.1⟩
      have HO := Lib.hid hO
      clear hO
      go_wp2_with fail
      go_ret
      exact ⟨_, o, rfl, HO.out.read, hv, hbel⟩

end Go.Proofs.YteobjelenfjifaaDoor
