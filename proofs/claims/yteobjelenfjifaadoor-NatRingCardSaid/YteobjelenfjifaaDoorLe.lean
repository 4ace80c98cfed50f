import Derived.Test.YteobjelenfjifaaDoorVb
namespace Go.Proofs.YteobjelenfjifaaDoor
open Go.RowKit Go.Proofs.Kit Go.Proofs.Nums

theorem short8 {va : Value} {a : List Nat} {w : World} (ha : NatAt w va a) : ∃ n, Calls Tryd.prog 14 #[va, .int .i64 8] w fun e w' => ∃ v', e = .returned v' ∧ Num w v' n 8 ∧ w = w' := short_num ha 8 (by omega)

set_option maxHeartbeats 4000000 in
theorem walk_NatRing {w : World} (va : Value) (a : List Nat) (ha : NatAt w va a) (vb : Value) (b : List Nat) (hb : NatAt w vb b) (vc : Value) (c : List Nat) (hc : NatAt w vc c) :
    Calls Tryd.prog 7 #[va, vb, vc] w fun e w' => e = .returned (.bool true) ∧ Below w.heap.size w w' := by
  obtain ⟨n, sa⟩ := short8 ha
  obtain ⟨m, sb⟩ := short8 hb
  obtain ⟨k, sc⟩ := short8 hc
  have SA := Lib.hid sa
  have SB := Lib.hid sb
  have SC := Lib.hid sc
  clear sa sb sc ha hb hc
  have E1 : Hid (n * (m + k) = n * m + k * n) := Lib.hid (by rw [Nat.mul_add, Nat.mul_comm k n])
  have E2 : Hid (n * m = m * n) := Lib.hid (Nat.mul_comm n m)
  go_enter Tryd.func7, Tryd.ntmps7
  go_wp2_with (first
    | (go_at_call 14; ((with_reducible refine SA.out.mono ?_); rintro e w1 ⟨v1, rfl, hv1, rfl⟩))
    | (go_at_call 14; ((with_reducible refine SB.out.mono ?_); rintro e w2 ⟨v2, rfl, hv2, rfl⟩))
    | (go_at_call 14; ((with_reducible refine SC.out.mono ?_); rintro e w3 ⟨v3, rfl, hv3, rfl⟩))
    | (go_at_call 25; ((with_reducible refine (add_num hv2 hv3 (by omega)).mono ?_); rintro e w4 ⟨v4, rfl, hv4, hb4⟩; have ha1 := hv1.keep hb4; have ha2 := hv2.keep hb4; have ha3 := hv3.keep hb4))
    | (go_at_call 28; ((with_reducible refine (mul_num ha1 hv4.num (by omega) (by omega)).mono ?_); rintro e w5 ⟨v5, rfl, hv5, hb5⟩; have hb5' := bel2' hb4 hb5; have hc1 := ha1.keep hb5; have hc2 := ha2.keep hb5; have hc3 := ha3.keep hb5; clear ha1 ha2 ha3))
    | (go_at_call 28; ((with_reducible refine (mul_num hc1 hc2 (by omega) (by omega)).mono ?_); rintro e w6 ⟨v6, rfl, hv6, hb6⟩; have hb6' := bel2' hb5' hb6; have hd1 := hc1.keep hb6; have hd2 := hc2.keep hb6; have hd3 := hc3.keep hb6; have h56 := hv5.keep hb6; clear hc1 hc2 hc3))
    | (go_at_call 28; ((with_reducible refine (mul_num hd3 hd1 (by omega) (by omega)).mono ?_); rintro e w7 ⟨v7, rfl, hv7, hb7⟩; have hb7' := bel2' hb6' hb7; have he1 := hd1.keep hb7; have he2 := hd2.keep hb7; have h57 := h56.keep hb7; have h67 := hv6.keep hb7; clear hd1 hd2 hd3))
    | (go_at_call 25; ((with_reducible refine (add_num h67.num hv7.num (by omega)).mono ?_); rintro e w8 ⟨v8, rfl, hv8, hb8⟩; have hb8' := bel2' hb7' hb8; have hf1 := he1.keep hb8; have hf2 := he2.keep hb8; have h58 := h57.keep hb8; clear he1 he2))
    | (go_at_call 18; ((with_reducible refine (awake_any _).mono ?_); rintro e w9 ⟨rfl, hb9⟩; have hb9' := bel2' hb8' hb9; have hg1 := hf1.keep hb9; have hg2 := hf2.keep hb9; have h59 := h58.keep hb9; have h89 := hv8.keep hb9; clear hf1 hf2))
    | (go_at_call 19; ((with_reducible refine (eq_num h59 h89 (by omega) (by omega) E1.out).mono ?_); rintro e w10 ⟨rfl, hb10⟩; have hb10' := bel2' hb9' hb10; have hh1 := hg1.keep hb10; have hh2 := hg2.keep hb10; clear hg1 hg2))
    | (go_at_call 28; ((with_reducible refine (mul_num hh1 hh2 (by omega) (by omega)).mono ?_); rintro e w11 ⟨v11, rfl, hv11, hb11⟩; have hb11' := bel2' hb10' hb11; have hi1 := hh1.keep hb11; have hi2 := hh2.keep hb11; clear hh1 hh2))
    | (go_at_call 28; ((with_reducible refine (mul_num hi2 hi1 (by omega) (by omega)).mono ?_); rintro e w12 ⟨v12, rfl, hv12, hb12⟩; have hb12' := bel2' hb11' hb12; have h1112 := hv11.keep hb12; clear hi1 hi2))
    | (go_at_call 19; ((with_reducible refine (eq_num h1112 hv12 (by omega) (by omega) E2.out).mono ?_); rintro e w13 ⟨rfl, hb13⟩; have hb13' := bel2' hb12' hb13)))
  go_ret
  exact ⟨rfl, hb13'⟩

end Go.Proofs.YteobjelenfjifaaDoor
