import Derived.Test.YteobjelenfjifaaDoorNs
import Derived.Test.YteobjelenfjifaaDoorNg
namespace Go.Proofs.YteobjelenfjifaaDoor
open Go.RowKit Go.Proofs.Kit Go.Proofs.Nums

set_option maxHeartbeats 4000000 in
theorem to_any (v : Value) (b : List Bool) (w : World) (hb : BitAt w v b) (hlb : b.length ≤ 100000) :
    Calls Tryd.prog 45 #[v] w fun e w' => ∃ v', e = .returned v' ∧ NatAt w' v' (limbs (bval b)) ∧ Below w.heap.size w w' := by
  obtain ⟨p1, c1, rfl⟩ := hb.shape
  obtain ⟨x, hx⟩ : ∃ x, bitsN (bval b) = x := ⟨_, rfl⟩
  have hxl : x.length ≤ 100000 := by rw [← hx]; exact Nat.le_trans (bits_len_le _ _ (bval_lt b)) hlb
  have cb := rtrim_any _ b w hb (by omega)
  rw [hx] at cb
  have CB := Lib.hid cb
  have HX := Lib.hid hx
  clear hb cb hx
  go_enter Tryd.func45, Tryd.ntmps45
  go_wp2_with (first
    | (go_at_call 41; ((with_reducible refine CB.out.mono ?_); rintro e w1 ⟨v1, rfl, hv1, hb1⟩; obtain ⟨p1, c1, rfl⟩ := hv1.shape))
    | (at_make; go_must (refine make_any er24 rfl rfl rfl rfl (by omega) (by omega) (by omega) ?_); intro w3 hown3 hb3))
  obtain ⟨n, hn⟩ : ∃ n, (x.length + 31) / 32 = n := ⟨_, rfl⟩
  rw [show (((x.length : Int) + 31) / 32).toNat = n by omega] at *
  have hown := OwnNat.made hown3
  have V1 := Lib.hid hv1
  clear hv1 CB hown3
  go_loopw [4] (fun i wr => ∃ k : Nat, ∃ o : List Nat, k ≤ x.length ∧ i = .int .i64 k ∧ OwnNat wr w1.heap.size w1.heap.size n n o ∧ Below w1.heap.size w1 wr ∧
      Hid (val o = bval (x.take k))) (fun i _ => x.length - (intOf i).toNat)
  case atStart => exact ⟨0, _, by omega, rfl, hown, hb3, Lib.hid (by rw [val_zeros]; simp [bval])⟩
  case round =>
    obtain ⟨k, o, hk, rfl, hO, hbel, hP⟩ := hrel
    by_cases hlt : k < x.length
    · rcases (V1.out.keep hbel).cases with ⟨hx0, _⟩ | ⟨_, b1, o1, k1, hv1, hk1, hm1, hbb, hcell1⟩
      · rw [hx0] at hlt; simp at hlt
      simp only [Value.slice.injEq] at hv1
      obtain ⟨rfl, _, rfl⟩ := hv1
      have q1 := hcell1 k hlt
      clear hcell1
      cases hbit : bnth x k
      · rw [hbit] at q1
        have HO := Lib.hid hO
        clear hO
        go_wp2_with fail
        go_roundw
        case rel => exact ⟨k + 1, o, by omega, by go_num, HO.out, hbel, Lib.hid (to_skip hbit hP.out)⟩
        case measure => simp [intOf] <;> omega
      · rw [hbit] at q1
        have hlen := hO.1
        have hlt1 := to_lt (o := o) (x := x) (i := k) (by omega) hP.out
        have hlt2 := hO.2.1.nth (k / 32)
        have hp := pow_lt32 (r := k % 32) (by omega)
        have hlim := to_lim hlt1 (r := k % 32) (by omega)
        have hor := or_add hlt1
        have hcell := hO.cell (j := k / 32) (by omega)
        have hfree := hO.free (k / 32)
        have hput := hO.put (k / 32) (nth o (k / 32) + 2 ^ (k % 32)) hlim
        have HS := Lib.hid (to_step (o := o) (x := x) (i := k) (by omega) hbit hP.out)
        have HO := Lib.hid hO
        clear hO
        obtain ⟨q, hq⟩ : ∃ q, k / 32 = q := ⟨_, rfl⟩
        obtain ⟨r, hr⟩ : ∃ r, k % 32 = r := ⟨_, rfl⟩
        rw [hq] at hcell hfree
        go_wp2_with fail
        subst hq hr
        have e0 : ((2 : Int) ^ (k % 32) % 4294967296) = ((2 ^ (k % 32) : Nat) : Int) := by
          rw [show ((2 : Int) ^ (k % 32)) = ((2 ^ (k % 32) : Nat) : Int) by rw [Int.natCast_pow]; rfl]
          omega
        have e1 : Go.bits BinOp.or IntKind.u32 (nth o (k / 32) : Int) ((2 : Int) ^ (k % 32) % 4294967296) = ((nth o (k / 32) + 2 ^ (k % 32) : Nat) : Int) := by
          rw [e0, or_u32 _ _ hlt2 hp, hor]
        go_roundw
        case rel =>
          rw [e1]
          exact ⟨k + 1, _, by omega, by go_num, hput.1, hbel.trans hput.2, HS⟩
        case measure => simp [intOf] <;> omega
    · obtain rfl : k = x.length := by omega
      have HE := Lib.hid (to_end (o := o) (n := bval b) hO.2.1 (by rw [HX.out, hO.1, hn]) (by rw [hP.out, List.take_length, ← HX.out, bval_bits]))
      have HO := Lib.hid hO
      clear hO
      go_wp2_with fail
      go_ret
      subst hn
      refine ⟨_, rfl, ?_, bel2' hb1 hbel⟩
      rw [← HE.out]
      exact HO.out.read

end Go.Proofs.YteobjelenfjifaaDoor
