import Derived.Test.YteobjelenfjifaaDoorDn
namespace Go.Proofs.YteobjelenfjifaaDoor
open Go.RowKit Go.Proofs.Kit Go.Proofs.Nums

theorem short_at {va : Value} {a : List Nat} {w : World} (ha : NatAt w va a) (k : Nat) (hk : k ≤ 1000000) (z : Int) (hz : (k : Int) = z) :
    ∃ n, Calls Tryd.prog 14 #[va, .int .i64 z] w fun e w' => ∃ v', e = .returned v' ∧ Num w v' n k ∧ w = w' := by
  subst hz; exact short_num ha k hk

/-- The length in bits of a number of L limbs. -/
theorem num_bits {w : World} {v : Value} {n L : Nat} (h : Num w v n L) : (bitsN n).length ≤ 32 * L := by
  refine bits_len_le _ _ ?_
  have := h.lt
  rw [base_pow] at this; exact this

theorem from_num {v : Value} {n L : Nat} {w : World} (h : Num w v n L) (hL : L ≤ 1000) :
    Calls Tryd.prog 17 #[v] w fun e w' => ∃ v', e = .returned v' ∧ BitAt w' v' (bitsN n) ∧ Below w.heap.size w w' := by
  obtain ⟨a, h1, rfl, h3⟩ := h
  exact from_any v a w h1 (by omega)

theorem is_num {va vb : Value} {n L : Nat} {w : World} (ha : Nrm w va n L) (hb : BitAt w vb (bitsN n)) (hL : L ≤ 1000) :
    Calls Tryd.prog 23 #[va, vb] w fun e w' => e = .returned (.bool true) ∧ Below w.heap.size w w' := by
  have := is_n va vb _ n w ha.1 hb (Nat.le_trans ha.len (by omega)) (Nat.le_trans (num_bits ha.num) (by omega))
  rw [eqN_self] at this; exact this

set_option maxHeartbeats 4000000 in
theorem walk_NatQuotient {w : World} (va : Value) (a : List Nat) (ha : NatAt w va a) (vb : Value) (b : List Nat) (hb : NatAt w vb b) :
    Calls Tryd.prog 10 #[va, vb] w fun e w' => e = .returned (.bool true) ∧ Below w.heap.size w w' := by
  obtain ⟨n, sa⟩ := short_at ha 5 (by omega) 5 rfl
  obtain ⟨m, sb⟩ := short_at hb 5 (by omega) 5 rfl
  have SA := Lib.hid sa
  have SB := Lib.hid sb
  clear sa sb ha hb
  rcases Nat.eq_zero_or_pos m with h0 | h0
  · subst h0
    have hzz : (bitsN 0).length = 0 := rfl
    go_enter Tryd.func10, Tryd.ntmps10
    go_wp2_with (first
      | (go_at_call 14; ((with_reducible refine SA.out.mono ?_); rintro e w1 ⟨v1, rfl, hv1, rfl⟩))
      | (go_at_call 14; ((with_reducible refine SB.out.mono ?_); rintro e w2 ⟨v2, rfl, hv2, rfl⟩))
      | (go_at_call 35; ((with_reducible refine (div_zero hv1 hv2).mono ?_); rintro e w3 ⟨rfl, rfl⟩))
      | (go_at_call 17; ((with_reducible refine (from_num hv2 (by omega)).mono ?_); rintro e w4 ⟨v4, rfl, hv4, hb4⟩; obtain ⟨p4, c4, rfl⟩ := hv4.shape))
      | (go_at_call 18; ((with_reducible refine (awake_any _).mono ?_); rintro e w5 ⟨rfl, hb5⟩)))
    go_ret
    exact ⟨rfl, bel2' hb4 hb5⟩
  · have hpos := bits_len_pos h0
    have hzz : (((bitsN m).length : Int) == 0) = false := by rw [beq_eq_false_iff_ne]; omega
    have HM := Lib.hid h0
    clear h0
    go_enter Tryd.func10, Tryd.ntmps10
    go_wp2_with (first
      | (go_at_call 14; ((with_reducible refine SA.out.mono ?_); rintro e w1 ⟨v1, rfl, hv1, rfl⟩))
      | (go_at_call 14; ((with_reducible refine SB.out.mono ?_); rintro e w2 ⟨v2, rfl, hv2, rfl⟩; have HN1 : Hid ((bitsN n).length ≤ 40000) := Lib.hid (Nat.le_trans (num_bits hv1) (by omega)); have HN2 : Hid ((bitsN m).length ≤ 40000) := Lib.hid (Nat.le_trans (num_bits hv2) (by omega))))
      | (go_at_call 35; ((with_reducible refine (div_num hv1 hv2 (by omega) (by omega) HM.out).mono ?_); rintro e w3 ⟨vq, vr, rfl, hq, hr, hb3⟩; have h13 := hv1.keep hb3; have h23 := hv2.keep hb3))
      | (go_at_call 17; ((with_reducible refine (from_num h23 (by omega)).mono ?_); rintro e w4 ⟨v4, rfl, hv4, hb4⟩; obtain ⟨p4, c4, rfl⟩ := hv4.shape; have hb4' := bel2' hb3 hb4; have h14 := h13.keep hb4; have hq4 := hq.keep hb4; have hr4 := hr.keep hb4; clear h23))
      | (go_at_call 17; ((with_reducible refine (from_num h14 (by omega)).mono ?_); rintro e w5 ⟨v5, rfl, hv5, hb5⟩; have hb5' := bel2' hb4' hb5; have h45 := hv4.keep hb5; have hq5 := hq4.keep hb5; have hr5 := hr4.keep hb5; clear h14))
      | (go_at_call 36; ((with_reducible refine (rdiv_n _ _ n m _ hv5 h45 HN1.out HN2.out HM.out).mono ?_); rintro e w6 ⟨vu, vv, rfl, hu, hv, hb6⟩; have hb6' := bel2' hb5' hb6; have hq6 := hq5.keep hb6; have hr6 := hr5.keep hb6))
      | (go_at_call 18; ((with_reducible refine (awake_any _).mono ?_); rintro e w7 ⟨rfl, hb7⟩; have hb7' := bel2' hb6' hb7; have hq7 := hq6.keep hb7; have hr7 := hr6.keep hb7; have hu7 := hu.keep hb7; have hv7 := hv.keep hb7))
      | (go_at_call 23; ((with_reducible refine (is_num hq7 hu7 (by omega)).mono ?_); rintro e w8 ⟨rfl, hb8⟩; have hb8' := bel2' hb7' hb8; have hr8 := hr7.keep hb8; have hv8 := hv7.keep hb8; clear hq7 hu7))
      | (go_at_call 23; ((with_reducible refine (is_num hr8 hv8 (by omega)).mono ?_); rintro e w9 ⟨rfl, hb9⟩; have hb9' := bel2' hb8' hb9)))
    go_ret
    exact ⟨rfl, hb9'⟩

end Go.Proofs.YteobjelenfjifaaDoor
