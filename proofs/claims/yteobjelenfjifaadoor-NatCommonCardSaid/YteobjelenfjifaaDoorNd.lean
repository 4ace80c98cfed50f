import Derived.Test.YteobjelenfjifaaDoorNc
import Derived.Test.YteobjelenfjifaaDoorNp2
namespace Go.Proofs.YteobjelenfjifaaDoor
open Go.RowKit Go.Proofs.Kit Go.Proofs.Nums

theorem mul_lt32 {x y o c : Nat} (hx : x < 4294967296) (hy : y < 4294967296) (ho : o < 4294967296) (hc : c < 4294967296) : x * y + o + c < 18446744073709551616 := by
  have h1 : x * y ≤ 4294967295 * 4294967295 := Nat.mul_le_mul (by omega) (by omega)
  omega

theorem bel2' {w w1 w2 : World} (h1 : Below w.heap.size w w1) (h2 : Below w1.heap.size w1 w2) : Below w.heap.size w w2 := h1.trans (h2.mono h1.size)

set_option maxHeartbeats 4000000 in
theorem mul_any (va vb : Value) (a b : List Nat) (w : World) (ha : NatAt w va a) (hb : NatAt w vb b) (hla : a.length ≤ 1000000) (hlb : b.length ≤ 1000000) :
    Calls Tryd.prog 28 #[va, vb] w fun e w' => ∃ v', e = .returned v' ∧ NatAt w' v' (limbs (val a * val b)) ∧ Below w.heap.size w w' := by
  obtain ⟨x, hx⟩ : ∃ x, limbs (val a) = x := ⟨_, rfl⟩
  obtain ⟨y, hy⟩ : ∃ y, limbs (val b) = y := ⟨_, rfl⟩
  have hxl : x.length ≤ 1000000 := by rw [← hx]; exact Nat.le_trans (limbs_len_le _ _ (val_lt a ha.2)) hla
  have hyl : y.length ≤ 1000000 := by rw [← hy]; exact Nat.le_trans (limbs_len_le _ _ (val_lt b hb.2)) hlb
  have hxv : val x = val a := by rw [← hx, val_limbs]
  have hyv : val y = val b := by rw [← hy, val_limbs]
  have ca := trim_any va a w ha
  have cb := trim_any vb b w hb
  rw [hx] at ca
  rw [hy] at cb
  have CA := Lib.hid ca
  have CB := Lib.hid cb
  have HXV := Lib.hid hxv
  have HYV := Lib.hid hyv
  clear ha hb hla hlb hx hy hxv hyv ca cb
  go_enter Tryd.func28, Tryd.ntmps28
  go_wp2_with (first
    | (go_at_call 40; ((with_reducible refine CA.out.mono ?_); rintro e w1 ⟨v1, rfl, hv1, rfl⟩; obtain ⟨p1, c1, rfl⟩ := hv1.shape))
    | (go_at_call 40; ((with_reducible refine CB.out.mono ?_); rintro e w2 ⟨v2, rfl, hv2, rfl⟩; obtain ⟨p2, c2, rfl⟩ := hv2.shape))
    | (at_make; go_must (refine make_any er24 rfl rfl rfl rfl (by omega) (by omega) (by omega) ?_); intro w3 hown3 hb3))
  rw [show ((x.length : Int) + (y.length : Int)).toNat = x.length + y.length by omega] at hown3
  have hown := OwnNat.made hown3
  have V1 := Lib.hid hv1
  have V2 := Lib.hid hv2
  clear hv1 hv2 CA CB hown3
  go_loopw [24] (fun i wr => ∃ k : Nat, ∃ o : List Nat, k ≤ x.length ∧ i = .int .i64 k ∧ OwnNat wr w.heap.size w.heap.size (x.length + y.length) (x.length + y.length) o ∧ Below w.heap.size w wr ∧
      Hid (val o = val (x.take k) * val y)) (fun i _ => x.length - (intOf i).toNat)
  case atStart => exact ⟨0, _, by omega, rfl, hown, hb3, Lib.hid (by rw [val_zeros]; simp [val])⟩
  case round =>
    obtain ⟨k, o, hk, rfl, hO, hbel, hP⟩ := hrel
    obtain ⟨wo, rfl⟩ : ∃ wo : World, wo = wr := ⟨_, rfl⟩
    by_cases hlt : k < x.length
    · rcases (V1.out.keep hbel).cases with ⟨hx0, _⟩ | ⟨_, b1, o1, k1, hv1, hk1, hm1, hb1, hcell1⟩
      · rw [hx0] at hlt; simp at hlt
      simp only [Value.slice.injEq] at hv1
      obtain ⟨rfl, _, rfl⟩ := hv1
      have q1 := hcell1 k hlt
      have hxk := V1.out.2.nth k
      clear hcell1
      go_wp2_with fail
      have hz : nth o (k + y.length) = 0 := nth_zero (by
        rw [hP.out, Nat.pow_add]
        have h1 := val_take_lt x V1.out.2 k (by omega)
        have h2 := val_lt y V2.out.2
        exact Nat.mul_lt_mul_of_lt_of_le h1 (Nat.le_of_lt h2) (Nat.pow_pos (by omega)))
      have HZ := Lib.hid hz
      clear hz
      go_loopw [8, 31] (fun c j wr => ∃ q cc : Nat, ∃ o' : List Nat, q ≤ y.length ∧ cc < 4294967296 ∧ j = .int .i64 q ∧ c = .int .u64 cc ∧ OwnNat wr w.heap.size w.heap.size (x.length + y.length) (x.length + y.length) o' ∧ Below w.heap.size w wr ∧
          Hid (nth o' (k + y.length) = 0) ∧ Hid (val o' + 4294967296 ^ (k + q) * cc = val (x.take k) * val y + 4294967296 ^ k * (nth x k * val (y.take q)))) (fun _ j _ => y.length - (intOf j).toNat)
      case atStart => exact ⟨0, 0, o, by omega, by omega, rfl, rfl, hO, hbel, HZ, Lib.hid (by rw [hP.out]; simp [val])⟩
      case round =>
        obtain ⟨q, cc, o', hq, hcc, rfl, rfl, hO', hbel', hZ', hP'⟩ := hrel
        by_cases hltq : q < y.length
        · rcases (V2.out.keep hbel').cases with ⟨hy0, _⟩ | ⟨_, b2, o2, k2, hv2, hk2, hm2, hb2, hcell2⟩
          · rw [hy0] at hltq; simp at hltq
          simp only [Value.slice.injEq] at hv2
          obtain ⟨rfl, _, rfl⟩ := hv2
          have q2 := hcell2 q hltq
          have hyq := V2.out.2.nth q
          clear hcell2
          have hcell := hO'.cell (j := k + q) (by omega)
          have hfree := hO'.free (k + q)
          have hoq := hO'.2.1.nth (k + q)
          have hmul := mul_lt32 hxk hyq hoq hcc
          have HO := Lib.hid hO'
          obtain ⟨xy, hxy⟩ : ∃ xy : Nat, (nth x k : Int) * (nth y q : Int) = (xy : Int) := ⟨nth x k * nth y q, by rw [Int.natCast_mul]⟩
          have hxy' : nth x k * nth y q = xy := by exact_mod_cast hxy
          rw [hxy'] at hmul
          have HXY := Lib.hid hxy'
          clear hO' hxy'
          go_wp2_with fail
          obtain ⟨t, ht⟩ : ∃ t, t = xy + nth o' (k + q) + cc := ⟨_, rfl⟩
          have e1 : ((xy : Int) + (nth o' (k + q) : Int) + (cc : Int)) % 4294967296 = ((t % 4294967296 : Nat) : Int) := by omega
          have e2 : ((xy : Int) + (nth o' (k + q) : Int) + (cc : Int)) / 4294967296 = ((t / 4294967296 : Nat) : Int) := by omega
          have hput := HO.out.put (k + q) (t % 4294967296) (Nat.mod_lt _ (by omega))
          have hlo := HO.out.1
          go_roundw
          case rel =>
            rw [e1, e2]
            refine ⟨q + 1, t / 4294967296, o'.set (k + q) (t % 4294967296), by omega, by omega, by go_num, rfl, hput.1, hbel'.trans hput.2, Lib.hid (by rw [nth_set_ne (by omega)]; exact hZ'.out), Lib.hid ?_⟩
            exact mul_step (by omega) (by rw [HXY.out]; exact ht) hP'.out
          case measure => simp [intOf]; omega
        · obtain rfl : q = y.length := by omega
          have hcell := hO'.cell (j := k + y.length) (by omega)
          have hfree := hO'.free (k + y.length)
          have hput := hO'.put (k + y.length) cc hcc
          have hlo := hO'.1
          have HPUT := Lib.hid hput
          clear hput hO'
          go_wp2_with fail
          go_roundw
          case rel =>
            exact ⟨k + 1, o'.set (k + y.length) cc, by omega, by go_num, HPUT.out.1, hbel'.trans HPUT.out.2, Lib.hid (mul_end (by omega) hZ'.out hP'.out)⟩
          case measure => simp [intOf]; omega
    · obtain rfl : k = x.length := by omega
      have hval : Hid (val o = val a * val b) := Lib.hid (by rw [hP.out, List.take_length, HXV.out, HYV.out])
      have hlen : o.length ≤ 1000000000 := by rw [hO.1]; omega
      have HLEN := Lib.hid hlen
      have HO := Lib.hid hO
      clear hlen hO
      go_wp2_with (go_at_call 20; refine (norm_any _ _ _ HO.out.read HLEN.out).mono ?_; rw [hval.out]; rintro e w5 ⟨v5, rfl, hv5, hb5⟩)
      go_ret
      exact ⟨_, rfl, hv5, bel2' hbel hb5⟩

end Go.Proofs.YteobjelenfjifaaDoor
