import Derived.Test.YteobjelenfjifaaDoorOe
namespace Go.Proofs.YteobjelenfjifaaDoor
open Go.RowKit Go.Proofs.Kit Go.Proofs.Nums

theorem eq_same (va vb : Value) (a : List Nat) (w : World) (ha : NatAt w va a) (hb : NatAt w vb a) (hl : a.length ≤ 1000000) :
    Calls Tryd.prog 19 #[va, vb] w fun e w' => e = .returned (.bool true) ∧ Below w.heap.size w w' := by
  have := req_any va vb a a w ha hb hl hl
  rw [eqN_self] at this; exact this

set_option maxHeartbeats 4000000 in
theorem walk_NatWord (z : Nat) (hz : z < 18446744073709551616) (va : Value) (a : List Nat) (w : World) (ha : NatAt w va a) :
    Calls Tryd.prog 3 #[.int .u64 z, va] w fun e w' => e = .returned (.bool true) ∧ Below w.heap.size w w' := by
  have SA := Lib.hid (short_any va a 6 w ha (by omega))
  obtain ⟨x, hx⟩ : ∃ x, a.take 6 = x := ⟨_, rfl⟩
  have hxl : x.length ≤ 6 := by rw [← hx]; simp; omega
  rw [hx, show ((6 : Nat) : Int) = 6 by omega] at SA
  clear ha hx
  have OF := Lib.hid (fun w => of_any z w hz)
  have UZ : Hid (∀ v w, NatAt w v (limbs z) → Calls Tryd.prog 15 #[v] w fun e w' => e = .returned (.tuple #[.int .u64 z, .bool true]) ∧ Below w.heap.size w w') := Lib.hid fun v w h => by
    have := u64_small v _ w h (by rw [val_limbs]; exact hz)
    rw [val_limbs] at this; exact this
  have FX : Hid (∀ v w, NatAt w v x → Calls Tryd.prog 17 #[v] w fun e w' => ∃ v', e = .returned v' ∧ BitAt w' v' (bitsN (val x)) ∧ Below w.heap.size w w') := Lib.hid fun v w h => from_any v x w h (by omega)
  have NO : Hid (∀ v w, NatAt w v x → Calls Tryd.prog 20 #[v] w fun e w' => ∃ v', e = .returned v' ∧ NatAt w' v' (limbs (val x)) ∧ Below w.heap.size w w') := Lib.hid fun v w h => norm_any v x w h (by omega)
  clear hz
  by_cases hN : val x < 18446744073709551616
  · have hb64 := bits_len_le (val x) 64 (by omega)
    have hlm := limbs2 hN
    have US : Hid (∀ v w, NatAt w v x → Calls Tryd.prog 15 #[v] w fun e w' => e = .returned (.tuple #[.int .u64 (val x : Nat), .bool true]) ∧ Below w.heap.size w w') := Lib.hid fun v w h => u64_small v x w h hN
    have OX := Lib.hid (fun w => of_any (val x) w hN)
    obtain ⟨N, hNN⟩ : ∃ N, val x = N := ⟨_, rfl⟩
    rw [hNN] at hb64 hlm US OX FX NO
    have HLM : Hid ((limbs N).length ≤ 1000000) := Lib.hid (by omega)
    clear hN hNN hlm
    go_enter Tryd.func3, Tryd.ntmps3
    go_wp2_with (first
      | (go_at_call 14; ((with_reducible refine SA.out.mono ?_); rintro e w1 ⟨v1, rfl, hv1, rfl⟩))
      | (go_at_call 16; ((with_reducible refine (OF.out _).mono ?_); rintro e w2 ⟨v2, rfl, hv2, hb2⟩))
      | (go_at_call 15; ((with_reducible refine (UZ.out _ _ hv2).mono ?_); rintro e w3 ⟨rfl, hb3⟩; have hb3' := bel2' hb2 hb3))
      | (go_at_call 15; ((with_reducible refine (US.out _ _ (hv1.keep hb3')).mono ?_); rintro e w4 ⟨rfl, hb4⟩; have hb4' := bel2' hb3' hb4))
      | (go_at_call 17; ((with_reducible refine (FX.out _ _ (hv1.keep hb4')).mono ?_); rintro e w5 ⟨v5, rfl, hv5, hb5⟩; have hb5' := bel2' hb4' hb5; obtain ⟨p5, c5, rfl⟩ := hv5.shape))
      | (go_at_call 18; ((with_reducible refine (awake_any _).mono ?_); rintro e w6 ⟨rfl, hb6⟩; have hb6' := bel2' hb5' hb6))
      | (go_at_call 16; ((with_reducible refine (OX.out _).mono ?_); rintro e w7 ⟨v7, rfl, hv7, hb7⟩; have hb7' := bel2' hb6' hb7))
      | (go_at_call 20; ((with_reducible refine (NO.out _ _ (hv1.keep hb7')).mono ?_); rintro e w8 ⟨v8, rfl, hv8, hb8⟩; have hb8' := bel2' hb7' hb8))
      | (go_at_call 19; ((with_reducible refine (eq_same _ _ _ _ (hv7.keep hb8) hv8 HLM.out).mono ?_); rintro e w9 ⟨rfl, hb9⟩; have hb9' := bel2' hb8' hb9)))
    go_ret
    exact ⟨rfl, hb9'⟩
  · have hb64 : 64 < (bitsN (val x)).length := by
      by_cases h : 64 < (bitsN (val x)).length
      · exact h
      · exfalso
        have h1 := bits_lt_pow (val x)
        have h2 : 2 ^ (bitsN (val x)).length ≤ 2 ^ 64 := Nat.pow_le_pow_right (by omega) (by omega)
        omega
    have US : Hid (∀ v w, NatAt w v x → Calls Tryd.prog 15 #[v] w fun e w' => e = .returned (.tuple #[.int .u64 0, .bool false]) ∧ w = w') := Lib.hid fun v w h => u64_big v x w h (by omega)
    have hnot : ¬ ((bitsN (val x)).length : Int) ≤ 64 := by omega
    obtain ⟨N, hNN⟩ : ∃ N, val x = N := ⟨_, rfl⟩
    rw [hNN] at hb64 FX NO hnot
    clear hN hNN
    go_enter Tryd.func3, Tryd.ntmps3
    go_wp2_with (first
      | (go_at_call 14; ((with_reducible refine SA.out.mono ?_); rintro e w1 ⟨v1, rfl, hv1, rfl⟩))
      | (go_at_call 16; ((with_reducible refine (OF.out _).mono ?_); rintro e w2 ⟨v2, rfl, hv2, hb2⟩))
      | (go_at_call 15; ((with_reducible refine (UZ.out _ _ hv2).mono ?_); rintro e w3 ⟨rfl, hb3⟩; have hb3' := bel2' hb2 hb3))
      | (go_at_call 15; ((with_reducible refine (US.out _ _ (hv1.keep hb3')).mono ?_); rintro e w4 ⟨rfl, rfl⟩))
      | (go_at_call 17; ((with_reducible refine (FX.out _ _ (hv1.keep hb3')).mono ?_); rintro e w5 ⟨v5, rfl, hv5, hb5⟩; have hb5' := bel2' hb3' hb5; obtain ⟨p5, c5, rfl⟩ := hv5.shape))
      | (go_at_call 18; ((with_reducible refine (awake_any _).mono ?_); rintro e w6 ⟨rfl, hb6⟩; have hb6' := bel2' hb5' hb6)))
    go_ret
    exact ⟨by show Ending.returned (.bool (!decide (((bitsN N).length : Int) ≤ 64))) = _; rw [decide_eq_false (show ¬ ((bitsN N).length : Int) ≤ 64 by omega)]; rfl, hb6'⟩

end Go.Proofs.YteobjelenfjifaaDoor
