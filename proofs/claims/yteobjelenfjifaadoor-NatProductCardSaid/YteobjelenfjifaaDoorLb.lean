import Derived.Test.YteobjelenfjifaaDoorOd
namespace Go.Proofs.YteobjelenfjifaaDoor
open Go.RowKit Go.Proofs.Kit Go.Proofs.Nums

theorem rmul_n (va vb : Value) (n m : Nat) (w : World) (ha : BitAt w va (bitsN n)) (hb : BitAt w vb (bitsN m)) (h1 : (bitsN n).length ≤ 20000) (h2 : (bitsN m).length ≤ 20000) :
    Calls Tryd.prog 29 #[va, vb] w fun e w' => ∃ v', e = .returned v' ∧ BitAt w' v' (bitsN (n * m)) ∧ Below w.heap.size w w' := by
  have := rmul_any va vb _ _ w ha hb h1 h2
  rw [bval_bits, bval_bits] at this; exact this

set_option maxHeartbeats 4000000 in
theorem walk_NatProduct (va vb : Value) (a b : List Nat) (w : World) (ha : NatAt w va a) (hb : NatAt w vb b) :
    Calls Tryd.prog 5 #[va, vb] w fun e w' => e = .returned (.bool true) ∧ Below w.heap.size w w' := by
  have SA := Lib.hid (short_any va a 4 w ha (by omega))
  have SB := Lib.hid (short_any vb b 4 w hb (by omega))
  obtain ⟨x, hx⟩ : ∃ x, a.take 4 = x := ⟨_, rfl⟩
  obtain ⟨y, hy⟩ : ∃ y, b.take 4 = y := ⟨_, rfl⟩
  have hxl : x.length ≤ 4 := by rw [← hx]; simp; omega
  have hyl : y.length ≤ 4 := by rw [← hy]; simp; omega
  rw [hx, show ((4 : Nat) : Int) = 4 by omega] at SA
  rw [hy, show ((4 : Nat) : Int) = 4 by omega] at SB
  have SX : Hid ((bitsN (val x)).length ≤ 32 * 4) := Lib.hid (bits_val_len (by rw [← hx]; exact ha.2.take 4) hxl)
  have SY : Hid ((bitsN (val y)).length ≤ 32 * 4) := Lib.hid (bits_val_len (by rw [← hy]; exact hb.2.take 4) hyl)
  clear ha hb hx hy
  obtain ⟨n, hn⟩ : ∃ n, val x = n := ⟨_, rfl⟩
  obtain ⟨m, hm⟩ : ∃ m, val y = m := ⟨_, rfl⟩
  rw [hn] at SX
  rw [hm] at SY
  have FX : Hid (∀ v w, NatAt w v x → Calls Tryd.prog 17 #[v] w fun e w' => ∃ v', e = .returned v' ∧ BitAt w' v' (bitsN n) ∧ Below w.heap.size w w') := Lib.hid fun v w h => by have := from_any v x w h (by omega); rw [hn] at this; exact this
  have FY : Hid (∀ v w, NatAt w v y → Calls Tryd.prog 17 #[v] w fun e w' => ∃ v', e = .returned v' ∧ BitAt w' v' (bitsN m) ∧ Below w.heap.size w w') := Lib.hid fun v w h => by have := from_any v y w h (by omega); rw [hm] at this; exact this
  have MUL : Hid (∀ va vb w, NatAt w va x → NatAt w vb y → Calls Tryd.prog 28 #[va, vb] w fun e w' => ∃ v', e = .returned v' ∧ NatAt w' v' (limbs (n * m)) ∧ Below w.heap.size w w') := Lib.hid fun va vb w h1 h2 => by have := mul_any va vb x y w h1 h2 (by omega) (by omega); rw [hn, hm] at this; exact this
  have SS : Hid (Sm (n * m) ∧ (limbs (n * m)).length ≤ 1000000) := by
    have h3 : Sm (n * m) := Nat.le_trans (len_mul SX.out SY.out) (by omega)
    exact Lib.hid ⟨h3, Nat.le_trans (sm_limb_len h3) (by omega)⟩
  have SX' : Hid ((bitsN n).length ≤ 20000) := Lib.hid (Nat.le_trans SX.out (by omega))
  have SY' : Hid ((bitsN m).length ≤ 20000) := Lib.hid (Nat.le_trans SY.out (by omega))
  clear SX SY
  go_enter Tryd.func5, Tryd.ntmps5
  go_wp2_with (first
    | (go_at_call 14; ((with_reducible refine SA.out.mono ?_); rintro e w1 ⟨v1, rfl, hv1, rfl⟩))
    | (go_at_call 14; ((with_reducible refine SB.out.mono ?_); rintro e w2 ⟨v2, rfl, hv2, rfl⟩))
    | (go_at_call 18; ((with_reducible refine (awake_any _).mono ?_); rintro e w3 ⟨rfl, hb3⟩))
    | (go_at_call 28; ((with_reducible refine (MUL.out _ _ _ (hv1.keep hb3) (hv2.keep hb3)).mono ?_); rintro e w4 ⟨v4, rfl, hv4, hb4⟩; have hb4' := bel2' hb3 hb4))
    | (go_at_call 17; ((with_reducible refine (FX.out _ _ (hv1.keep hb4')).mono ?_); rintro e w5 ⟨v5, rfl, hv5, hb5⟩; have hb5' := bel2' hb4' hb5; have hv4a := hv4.keep hb5))
    | (go_at_call 17; ((with_reducible refine (FY.out _ _ (hv2.keep hb5')).mono ?_); rintro e w6 ⟨v6, rfl, hv6, hb6⟩; have hb6' := bel2' hb5' hb6; have hv4b := hv4a.keep hb6; have hv5b := hv5.keep hb6))
    | (go_at_call 29; ((with_reducible refine (rmul_n _ _ n m _ hv5b hv6 SX'.out SY'.out).mono ?_); rintro e w7 ⟨v7, rfl, hv7, hb7⟩; have hb7' := bel2' hb6' hb7; have hv4c := hv4b.keep hb7))
    | (go_at_call 23; ((with_reducible refine (is_n _ _ _ (n * m) _ hv4c hv7 SS.out.2 SS.out.1).mono ?_); rw [eqN_self]; rintro e w8 ⟨rfl, hb8⟩; have hb8' := bel2' hb7' hb8)))
  go_ret
  exact ⟨rfl, hb8'⟩

end Go.Proofs.YteobjelenfjifaaDoor
