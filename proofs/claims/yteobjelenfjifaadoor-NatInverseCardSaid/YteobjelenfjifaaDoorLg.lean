import Derived.Test.YteobjelenfjifaaDoorLf
namespace Go.Proofs.YteobjelenfjifaaDoor
open Go.RowKit Go.Proofs.Kit Go.Proofs.Nums

theorem cmp_less {va vb : Value} {n m L M : Nat} {w : World} (ha : Num w va n L) (hb : Num w vb m M) (hL : L ≤ 1000000) (hM : M ≤ 1000000) (h : n < m) :
    Calls Tryd.prog 27 #[va, vb] w fun e w' => e = .returned (.int .i64 (-1)) ∧ Below w.heap.size w w' := by
  have := cmp_num ha hb hL hM
  rw [cmpN_lt h] at this; exact this

theorem cmp_same {va vb : Value} {n m L M : Nat} {w : World} (ha : Num w va n L) (hb : Num w vb m M) (hL : L ≤ 1000000) (hM : M ≤ 1000000) (h : n = m) :
    Calls Tryd.prog 27 #[va, vb] w fun e w' => e = .returned (.int .i64 0) ∧ Below w.heap.size w w' := by
  have := cmp_num ha hb hL hM
  rw [cmpN_eq h] at this; exact this

theorem cmp_ge {va vb : Value} {n m L M : Nat} {w : World} (ha : Num w va n L) (hb : Num w vb m M) (hL : L ≤ 1000000) (hM : M ≤ 1000000) (h : m ≤ n) :
    Calls Tryd.prog 27 #[va, vb] w fun e w' => ∃ c : Int, 0 ≤ c ∧ c ≤ 1 ∧ e = .returned (.int .i64 c) ∧ Below w.heap.size w w' :=
  (cmp_num ha hb hL hM).mono fun e w' ⟨h1, h2⟩ => ⟨cmpN n m, by unfold cmpN; rw [if_neg (by omega)]; split <;> omega, by unfold cmpN; rw [if_neg (by omega)]; split <;> omega, h1, h2⟩

set_option maxHeartbeats 4000000 in
theorem walk_NatInverse {w : World} (va : Value) (a : List Nat) (ha : NatAt w va a) (vb : Value) (b : List Nat) (hb : NatAt w vb b) (vc : Value) (c : List Nat) (hc : NatAt w vc c) :
    Calls Tryd.prog 12 #[va, vb, vc] w fun e w' => e = .returned (.bool true) ∧ Below w.heap.size w w' := by
  obtain ⟨n, sa⟩ := short_at ha 6 (by omega) 6 rfl
  obtain ⟨m, sb⟩ := short_at hb 6 (by omega) 6 rfl
  obtain ⟨k, sc⟩ := short_at hc 6 (by omega) 6 rfl
  have SA := Lib.hid sa
  have SB := Lib.hid sb
  have SC := Lib.hid sc
  clear sa sb sc ha hb hc
  rcases Nat.lt_or_ge k m with h | h
  · have HKM := Lib.hid h
    have E1 : Hid (0 < m ∧ (n * m + k) / m = n ∧ (n * m + k) % m = k) := Lib.hid ⟨by omega, by rw [Nat.mul_comm, Nat.mul_add_div (by omega), Nat.div_eq_of_lt h]; rfl, by rw [Nat.mul_comm, Nat.mul_add_mod, Nat.mod_eq_of_lt h]⟩
    clear h
    go_enter Tryd.func12, Tryd.ntmps12
    go_wp2_with (first
      | (go_at_call 14; ((with_reducible refine SA.out.mono ?_); rintro e w1 ⟨v1, rfl, hv1, rfl⟩))
      | (go_at_call 14; ((with_reducible refine SB.out.mono ?_); rintro e w2 ⟨v2, rfl, hv2, rfl⟩))
      | (go_at_call 14; ((with_reducible refine SC.out.mono ?_); rintro e w3 ⟨v3, rfl, hv3, rfl⟩))
      | (go_at_call 27; ((with_reducible refine (cmp_less hv3 hv2 (by omega) (by omega) HKM.out).mono ?_); rintro e w4 ⟨rfl, hb4⟩; have ha1 := hv1.keep hb4; have ha2 := hv2.keep hb4; have ha3 := hv3.keep hb4))
      | (go_at_call 28; ((with_reducible refine (mul_num ha1 ha2 (by omega) (by omega)).mono ?_); rintro e w5 ⟨v5, rfl, hv5, hb5⟩; have hb5' := bel2' hb4 hb5; have hc1 := ha1.keep hb5; have hc2 := ha2.keep hb5; have hc3 := (ha3.keep hb5).wider (show 6 ≤ 6 + 6 by omega); clear ha1 ha2 ha3))
      | (go_at_call 25; ((with_reducible refine (add_num hv5.num hc3 (by omega)).mono ?_); rintro e w6 ⟨v6, rfl, hv6, hb6⟩; have hb6' := bel2' hb5' hb6; have hd1 := hc1.keep hb6; have hd2 := hc2.keep hb6; have hd3 := hc3.keep hb6; clear hc1 hc2 hc3))
      | (go_at_call 35; ((with_reducible refine (div_num hv6.num hd2 (by omega) (by omega) E1.out.1).mono ?_); rintro e w7 ⟨vq, vr, rfl, hq, hr, hb7⟩; have hb7' := bel2' hb6' hb7; have he1 := hd1.keep hb7; have he3 := hd3.keep hb7; clear hd1 hd2 hd3))
      | (go_at_call 18; ((with_reducible refine (awake_any _).mono ?_); rintro e w8 ⟨rfl, hb8⟩; have hb8' := bel2' hb7' hb8; have hf1 := he1.keep hb8; have hf3 := he3.keep hb8; have hq8 := hq.keep hb8; have hr8 := hr.keep hb8; clear he1 he3))
      | (go_at_call 27; ((with_reducible refine (cmp_same hq8.num hf1 (by omega) (by omega) E1.out.2.1).mono ?_); rintro e w9 ⟨rfl, hb9⟩; have hb9' := bel2' hb8' hb9; have hg3 := hf3.keep hb9; have hr9 := hr8.keep hb9; clear hq8))
      | (go_at_call 27; ((with_reducible refine (cmp_same hr9.num hg3 (by omega) (by omega) E1.out.2.2).mono ?_); rintro e w10 ⟨rfl, hb10⟩; have hb10' := bel2' hb9' hb10)))
    go_ret
    exact ⟨rfl, hb10'⟩
  · have HKM := Lib.hid h
    clear h
    go_enter Tryd.func12, Tryd.ntmps12
    go_wp2_with (first
      | (go_at_call 14; ((with_reducible refine SA.out.mono ?_); rintro e w1 ⟨v1, rfl, hv1, rfl⟩))
      | (go_at_call 14; ((with_reducible refine SB.out.mono ?_); rintro e w2 ⟨v2, rfl, hv2, rfl⟩))
      | (go_at_call 14; ((with_reducible refine SC.out.mono ?_); rintro e w3 ⟨v3, rfl, hv3, rfl⟩))
      | (go_at_call 27; ((with_reducible refine (cmp_ge hv3 hv2 (by omega) (by omega) HKM.out).mono ?_); rintro e w4 ⟨cc, hc0, hc1, rfl, hb4⟩))
      | (go_at_call 18; ((with_reducible refine (awake_any _).mono ?_); rintro e w8 ⟨rfl, hb8⟩)))
    go_ret
    exact ⟨rfl, bel2' hb4 hb8⟩

end Go.Proofs.YteobjelenfjifaaDoor
