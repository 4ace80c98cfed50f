import Derived.Test.YteobjelenfjifaaDoorGB
namespace Go.Proofs.YteobjelenfjifaaDoor
open Go.RowKit Go.Proofs.Kit Go.Proofs.Nums

theorem ret_v {a b : Bool} (h : a = b) : Ending.returned (.bool a) = .returned (.bool b) := by rw [h]

/-- electionref01.Eq. -/
def eqN (a b : List Nat) : Bool := decide (a = b)

theorem eqN_len {a b : List Nat} (h : a.length ≠ b.length) : eqN a b = false := by unfold eqN; simp; intro h'; exact h (by rw [h'])
theorem eqN_ne {a b : List Nat} {k : Nat} (h : nth a k ≠ nth b k) : eqN a b = false := by unfold eqN; simp; intro h'; exact h (by rw [h'])
theorem eqN_all {a b : List Nat} (h : a.length = b.length) (hh : ∀ j, j < a.length → nth a j = nth b j) : eqN a b = true := by
  unfold eqN; simp
  refine List.ext_getElem h fun i h1 h2 => ?_
  have := hh i h1
  rw [nth_lt h1, nth_lt h2] at this; exact this

set_option maxHeartbeats 2000000 in
theorem req_any (va vb : Value) (a b : List Nat) (w : World) (ha : NatAt w va a) (hb : NatAt w vb b) (hla : a.length ≤ 1000000) (_hlb : b.length ≤ 1000000) :
    Calls Tryd.prog 19 #[va, vb] w fun e w' => e = .returned (.bool (eqN a b)) ∧ Below w.heap.size w w' := by
  obtain ⟨p1, c1, rfl⟩ := ha.shape
  obtain ⟨p2, c2, rfl⟩ := hb.shape
  have HA := Lib.hid ha
  have HB := Lib.hid hb
  clear ha hb
  by_cases hl : a.length = b.length
  · have hl1 : a.length ≤ b.length := by omega
    have hl2 : b.length ≤ a.length := by omega
    have hne : ((a.length : Int) != (b.length : Int)) = false := by rw [hl]; simp
    have HL := Lib.hid hl
    clear hl
    go_enter Tryd.func19, Tryd.ntmps19
    go_wp2_with fail
    go_loopw [5] (fun i wr => ∃ k : Nat, k ≤ a.length ∧ i = .int .i64 k ∧ (∃ n, wr = w.drewN n) ∧ Hid (∀ j, j < k → nth a j = nth b j)) (fun i _ => a.length - (intOf i).toNat)
    case atStart => exact ⟨0, by omega, rfl, ⟨0, rfl⟩, Lib.hid fun _ h => absurd h (by omega)⟩
    case round =>
      obtain ⟨k, hk, rfl, ⟨n, rfl⟩, hP⟩ := hrel
      by_cases hlt : k < a.length
      · rcases HA.out.cases with ⟨hx0, _⟩ | ⟨_, b1, o1, k1, hv1, hk1, hm1, hb1, hcell1⟩
        · rw [hx0] at hlt; simp at hlt
        rcases HB.out.cases with ⟨hy0, _⟩ | ⟨_, b2, o2, k2, hv2, hk2, hm2, hb2, hcell2⟩
        · exfalso; rw [hy0] at hl1; simp only [List.length_nil] at hl1; omega
        simp only [Value.slice.injEq] at hv1 hv2
        obtain ⟨rfl, _, rfl⟩ := hv1
        obtain ⟨rfl, _, rfl⟩ := hv2
        have q1 := hcell1 k (by omega)
        have q2 := hcell2 k (by omega)
        clear hcell1 hcell2
        by_cases heq : nth a k = nth b k
        · have HEQ := Lib.hid heq
          have hb' : ((nth a k : Int) != (nth b k : Int)) = false := by rw [heq]; simp
          clear heq
          go_wp2_with fail
          go_quiet (fail)
          go_wp2_with fail
          go_roundw
          case rel =>
            refine ⟨k + 1, by omega, by go_num, ⟨_, by first | rfl | (rw [World.drewN_drewN])⟩, Lib.hid fun j hj => ?_⟩
            by_cases hjk : j < k
            · exact hP.out j hjk
            · obtain rfl : j = k := by omega
              exact HEQ.out
          case measure => simp [intOf]; omega
        · have HE := Lib.hid (eqN_ne heq)
          have hb' : ((nth a k : Int) != (nth b k : Int)) = true := by rw [bne_iff_ne]; omega
          clear heq
          go_wp2_with fail
          go_quiet (fail)
          go_wp2_with fail
          go_ret
          exact ⟨ret_v (by rw [HE.out]), below_drewN (below_drewN (Below.refl _ _) _) _⟩
      · have HE := Lib.hid (eqN_all HL.out (fun j hj => hP.out j (by omega)))
        go_wp2_with fail
        go_ret
        exact ⟨ret_v (by rw [HE.out]), below_drewN (Below.refl _ _) _⟩
  · have HE := Lib.hid (eqN_len hl)
    have hne : ((a.length : Int) != (b.length : Int)) = true := by rw [bne_iff_ne]; omega
    clear hl
    go_enter Tryd.func19, Tryd.ntmps19
    go_wp2_with fail
    go_ret
    exact ⟨ret_v (by rw [HE.out]), Below.refl _ _⟩

end Go.Proofs.YteobjelenfjifaaDoor

namespace Go.Proofs.YteobjelenfjifaaDoor
open Go.RowKit Go.Proofs.Kit Go.Proofs.Nums

set_option maxHeartbeats 4000000 in
theorem to_any (v : Value) (b : List Bool) (w : World) (hb : BitAt w v b) (hlb : b.length ≤ 100000) :
    Calls Tryd.prog 45 #[v] w fun e w' => ∃ v', e = .returned v' ∧ NatAt w' v' (limbs (bval b)) ∧ Below w.heap.size w w' := by
  obtain ⟨p1, c1, rfl⟩ := hb.shape
  obtain ⟨x, hx⟩ : ∃ x, bitsN (bval b) = x := ⟨_, rfl⟩
  have hxl : x.length ≤ 100000 := by rw [← hx]; exact Nat.le_trans (bits_len_le _ _ (bval_lt b)) hlb
  have cb := rtrim_any _ b w hb (by omega)
  rw [hx] at cb
  have CB := Lib.hid cb
  have HX := Lib.hid hx
  clear hb cb hx
  go_enter Tryd.func45, Tryd.ntmps45
  go_wp2_with (first
    | (go_at_call 41; ((with_reducible refine CB.out.mono ?_); rintro e w1 ⟨v1, rfl, hv1, hb1⟩; obtain ⟨p1, c1, rfl⟩ := hv1.shape))
    | (at_make; go_must (refine make_any er24 rfl rfl rfl rfl (by omega) (by omega) (by omega) ?_); intro w3 hown3 hb3))
  obtain ⟨n, hn⟩ : ∃ n, (x.length + 31) / 32 = n := ⟨_, rfl⟩
  rw [show (((x.length : Int) + 31) / 32).toNat = n by omega] at *
  have hown := OwnNat.made hown3
  have V1 := Lib.hid hv1
  clear hv1 CB hown3
  go_loopw [4] (fun i wr => ∃ k : Nat, ∃ o : List Nat, k ≤ x.length ∧ i = .int .i64 k ∧ OwnNat wr w1.heap.size w1.heap.size n n o ∧ Below w1.heap.size w1 wr ∧
      Hid (val o = bval (x.take k))) (fun i _ => x.length - (intOf i).toNat)
  case atStart => exact ⟨0, _, by omega, rfl, hown, hb3, Lib.hid (by rw [val_zeros]; simp [bval])⟩
  case round =>
    obtain ⟨k, o, hk, rfl, hO, hbel, hP⟩ := hrel
    by_cases hlt : k < x.length
    · rcases (V1.out.keep hbel).cases with ⟨hx0, _⟩ | ⟨_, b1, o1, k1, hv1, hk1, hm1, hbb, hcell1⟩
      · rw [hx0] at hlt; simp at hlt
      simp only [Value.slice.injEq] at hv1
      obtain ⟨rfl, _, rfl⟩ := hv1
      have q1 := hcell1 k hlt
      clear hcell1
      cases hbit : bnth x k
      · rw [hbit] at q1
        have HO := Lib.hid hO
        clear hO
        go_wp2_with fail
        go_roundw
        case rel => exact ⟨k + 1, o, by omega, by go_num, HO.out, hbel, Lib.hid (to_skip hbit hP.out)⟩
        case measure => simp [intOf] <;> omega
      · rw [hbit] at q1
        have hlen := hO.1
        have hlt1 := to_lt (o := o) (x := x) (i := k) (by omega) hP.out
        have hlt2 := hO.2.1.nth (k / 32)
        have hp := pow_lt32 (r := k % 32) (by omega)
        have hlim := to_lim hlt1 (r := k % 32) (by omega)
        have hor := or_add hlt1
        have hcell := hO.cell (j := k / 32) (by omega)
        have hfree := hO.free (k / 32)
        have hput := hO.put (k / 32) (nth o (k / 32) + 2 ^ (k % 32)) hlim
        have HS := Lib.hid (to_step (o := o) (x := x) (i := k) (by omega) hbit hP.out)
        have HO := Lib.hid hO
        clear hO
        obtain ⟨q, hq⟩ : ∃ q, k / 32 = q := ⟨_, rfl⟩
        obtain ⟨r, hr⟩ : ∃ r, k % 32 = r := ⟨_, rfl⟩
        rw [hq] at hcell hfree
        go_wp2_with fail
        subst hq hr
        have e0 : ((2 : Int) ^ (k % 32) % 4294967296) = ((2 ^ (k % 32) : Nat) : Int) := by
          rw [show ((2 : Int) ^ (k % 32)) = ((2 ^ (k % 32) : Nat) : Int) by rw [Int.natCast_pow]; rfl]
          omega
        have e1 : Go.bits BinOp.or IntKind.u32 (nth o (k / 32) : Int) ((2 : Int) ^ (k % 32) % 4294967296) = ((nth o (k / 32) + 2 ^ (k % 32) : Nat) : Int) := by
          rw [e0, or_u32 _ _ hlt2 hp, hor]
        go_roundw
        case rel =>
          rw [e1]
          exact ⟨k + 1, _, by omega, by go_num, hput.1, hbel.trans hput.2, HS⟩
        case measure => simp [intOf] <;> omega
    · obtain rfl : k = x.length := by omega
      have HE := Lib.hid (to_end (o := o) (n := bval b) hO.2.1 (by rw [HX.out, hO.1, hn]) (by rw [hP.out, List.take_length, ← HX.out, bval_bits]))
      have HO := Lib.hid hO
      clear hO
      go_wp2_with fail
      go_ret
      subst hn
      refine ⟨_, rfl, ?_, bel2' hb1 hbel⟩
      rw [← HE.out]
      exact HO.out.read

end Go.Proofs.YteobjelenfjifaaDoor
