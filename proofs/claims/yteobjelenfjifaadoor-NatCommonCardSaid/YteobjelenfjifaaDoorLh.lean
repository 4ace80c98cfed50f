import Derived.Test.YteobjelenfjifaaDoorLf
namespace Go.Proofs.YteobjelenfjifaaDoor
open Go.RowKit Go.Proofs.Kit Go.Proofs.Nums

set_option maxHeartbeats 4000000 in
theorem walk_NatCommon {w : World} (va : Value) (a : List Nat) (ha : NatAt w va a) (vb : Value) (b : List Nat) (hb : NatAt w vb b) :
    Calls Tryd.prog 11 #[va, vb] w fun e w' => e = .returned (.bool true) ∧ Below w.heap.size w w' := by
  obtain ⟨n, sa⟩ := short_at ha 3 (by omega) 3 rfl
  obtain ⟨m, sb⟩ := short_at hb 3 (by omega) 3 rfl
  have SA := Lib.hid sa
  have SB := Lib.hid sb
  clear sa sb ha hb
  go_enter Tryd.func11, Tryd.ntmps11
  go_wp2_with (first
    | (go_at_call 14; ((with_reducible refine SA.out.mono ?_); rintro e w1 ⟨v1, rfl, hv1, rfl⟩))
    | (go_at_call 14; ((with_reducible refine SB.out.mono ?_); rintro e w2 ⟨v2, rfl, hv2, rfl⟩; have HN1 : Hid ((bitsN n).length ≤ 40000) := Lib.hid (Nat.le_trans (num_bits hv1) (by omega)); have HN2 : Hid ((bitsN m).length ≤ 40000) := Lib.hid (Nat.le_trans (num_bits hv2) (by omega))))
    | (go_at_call 18; ((with_reducible refine (awake_any _).mono ?_); rintro e w3 ⟨rfl, hb3⟩; have h13 := hv1.keep hb3; have h23 := hv2.keep hb3))
    | (go_at_call 37; ((with_reducible refine (gcd_num h13 h23 (by omega)).mono ?_); rintro e w4 ⟨v4, rfl, hv4, hb4⟩; have hb4' := bel2' hb3 hb4; have h14 := h13.keep hb4; have h24 := h23.keep hb4; clear h13 h23))
    | (go_at_call 17; ((with_reducible refine (from_num h14 (by omega)).mono ?_); rintro e w5 ⟨v5, rfl, hv5, hb5⟩; have hb5' := bel2' hb4' hb5; have h25 := h24.keep hb5; have hv45 := hv4.keep hb5; clear h14))
    | (go_at_call 17; ((with_reducible refine (from_num h25 (by omega)).mono ?_); rintro e w6 ⟨v6, rfl, hv6, hb6⟩; have hb6' := bel2' hb5' hb6; have h56 := hv5.keep hb6; have hv46 := hv45.keep hb6; clear h25))
    | (go_at_call 38; ((with_reducible refine (rgcd_n _ _ n m _ h56 hv6 HN1.out HN2.out).mono ?_); rintro e w7 ⟨v7, rfl, hv7, hb7⟩; have hb7' := bel2' hb6' hb7; have hv47 := hv46.keep hb7))
    | (go_at_call 23; ((with_reducible refine (is_num hv47 hv7 (by omega)).mono ?_); rintro e w8 ⟨rfl, hb8⟩; have hb8' := bel2' hb7' hb8)))
  go_ret
  exact ⟨rfl, hb8'⟩

end Go.Proofs.YteobjelenfjifaaDoor
