import Derived.Test.YteobjelenfjifaaDoorOb
namespace Go.Proofs.YteobjelenfjifaaDoor
open Go.RowKit Go.Proofs.Kit Go.Proofs.Nums

theorem cmp_ge {n m : Nat} (h : m ≤ n) : ((0 : Int) ≤ cmpN n m) := by
  unfold cmpN; rw [if_neg (by omega)]; split <;> omega
theorem cmp_nge {n m : Nat} (h : n < m) : cmpN n m = -1 := cmpN_lt h

set_option maxHeartbeats 4000000 in
theorem walk_NatSum (va vb : Value) (a b : List Nat) (w : World) (ha : NatAt w va a) (hb : NatAt w vb b) :
    Calls Tryd.prog 4 #[va, vb] w fun e w' => e = .returned (.bool true) ∧ Below w.heap.size w w' := by
  have SA := Lib.hid (short_any va a 8 w ha (by omega))
  have SB := Lib.hid (short_any vb b 8 w hb (by omega))
  obtain ⟨x, hx⟩ : ∃ x, a.take 8 = x := ⟨_, rfl⟩
  obtain ⟨y, hy⟩ : ∃ y, b.take 8 = y := ⟨_, rfl⟩
  have hxl : x.length ≤ 8 := by rw [← hx]; simp; omega
  have hyl : y.length ≤ 8 := by rw [← hy]; simp; omega
  rw [hx, show ((8 : Nat) : Int) = 8 by omega] at SA
  rw [hy, show ((8 : Nat) : Int) = 8 by omega] at SB
  have SX : Hid ((bitsN (val x)).length ≤ 32 * 8) := Lib.hid (bits_val_len (by rw [← hx]; exact ha.2.take 8) hxl)
  have SY : Hid ((bitsN (val y)).length ≤ 32 * 8) := Lib.hid (bits_val_len (by rw [← hy]; exact hb.2.take 8) hyl)
  clear ha hb hx hy
  obtain ⟨n, hn⟩ : ∃ n, val x = n := ⟨_, rfl⟩
  obtain ⟨m, hm⟩ : ∃ m, val y = m := ⟨_, rfl⟩
  rw [hn] at SX
  rw [hm] at SY
  have FX : Hid (∀ v w, NatAt w v x → Calls Tryd.prog 17 #[v] w fun e w' => ∃ v', e = .returned v' ∧ BitAt w' v' (bitsN n) ∧ Below w.heap.size w w') := Lib.hid fun v w h => by have := from_any v x w h (by omega); rw [hn] at this; exact this
  have FY : Hid (∀ v w, NatAt w v y → Calls Tryd.prog 17 #[v] w fun e w' => ∃ v', e = .returned v' ∧ BitAt w' v' (bitsN m) ∧ Below w.heap.size w w') := Lib.hid fun v w h => by have := from_any v y w h (by omega); rw [hm] at this; exact this
  have SUB : Hid (∀ va vb w, NatAt w va x → NatAt w vb y → Calls Tryd.prog 21 #[va, vb] w fun e w' => SubRet n m e w' ∧ Below w.heap.size w w') := Lib.hid fun va vb w h1 h2 => by have := sub_any va vb x y w h1 h2 (by omega) (by omega); rw [hn, hm] at this; exact this
  have ADD : Hid (∀ va vb w, NatAt w va x → NatAt w vb y → Calls Tryd.prog 25 #[va, vb] w fun e w' => ∃ v', e = .returned v' ∧ NatAt w' v' (limbs (n + m)) ∧ Below w.heap.size w w') := Lib.hid fun va vb w h1 h2 => by have := add_any va vb x y w h1 h2 (by omega) (by omega); rw [hn, hm] at this; exact this
  have CMP : Hid (∀ va vb w, NatAt w va x → NatAt w vb y → Calls Tryd.prog 27 #[va, vb] w fun e w' => e = .returned (.int .i64 (cmpN n m)) ∧ Below w.heap.size w w') := Lib.hid fun va vb w h1 h2 => by have := cmp_any va vb x y w h1 h2 (by omega) (by omega); rw [hn, hm] at this; exact this
  have SS : Hid (Sm (n + m) ∧ (limbs (n + m)).length ≤ 1000000) := by
    have h3 : Sm (n + m) := Nat.le_trans (len_add SX.out SY.out) (by omega)
    exact Lib.hid ⟨h3, Nat.le_trans (sm_limb_len h3) (by omega)⟩
  have SX' : Hid (Sm n) := Lib.hid (Nat.le_trans SX.out (by omega))
  have SY' : Hid (Sm m) := Lib.hid (Nat.le_trans SY.out (by omega))
  clear SX SY
  by_cases hge : m ≤ n
  · have hC := cmp_ge hge
    have SD : Hid (Sm (n - m) ∧ (limbs (n - m)).length ≤ 1000000) := by
      have h3 : Sm (n - m) := sm_le (Nat.sub_le ..) SX'.out
      exact Lib.hid ⟨h3, Nat.le_trans (sm_limb_len h3) (by omega)⟩
    have SUB' : Hid (∀ va vb w, NatAt w va x → NatAt w vb y → Calls Tryd.prog 21 #[va, vb] w fun e w' => ∃ v', e = .returned (.tuple #[v', .bool true]) ∧ NatAt w' v' (limbs (n - m)) ∧ Below w.heap.size w w') := Lib.hid fun va vb w h1 h2 => by
      refine (SUB.out va vb w h1 h2).mono fun e w' ⟨h3, h4⟩ => ?_
      unfold SubRet at h3
      rw [if_pos hge] at h3
      obtain ⟨v', h5, h6⟩ := h3
      exact ⟨v', h5, h6, h4⟩
    have HGE := Lib.hid hge
    obtain ⟨z, hz⟩ : ∃ z : Int, cmpN n m = z := ⟨_, rfl⟩
    have RC : Hid (∀ va vb w, BitAt w va (bitsN n) → BitAt w vb (bitsN m) → Calls Tryd.prog 22 #[va, vb] w fun e w' => e = .returned (.int .i64 z) ∧ Below w.heap.size w w') := Lib.hid fun va vb w h1 h2 => by have := rcmp_n va vb n m w h1 h2 SX'.out SY'.out; rw [hz] at this; exact this
    rw [hz] at CMP hC
    clear SUB hge hz
    go_enter Tryd.func4, Tryd.ntmps4
    go_wp2_with (first
      | (go_at_call 14; ((with_reducible refine SA.out.mono ?_); rintro e w1 ⟨v1, rfl, hv1, rfl⟩))
      | (go_at_call 14; ((with_reducible refine SB.out.mono ?_); rintro e w2 ⟨v2, rfl, hv2, rfl⟩))
      | (go_at_call 17; ((with_reducible refine (FX.out _ _ hv1).mono ?_); rintro e w3 ⟨v3, rfl, hv3, hb3⟩))
      | (go_at_call 17; ((with_reducible refine (FY.out _ _ (hv2.keep hb3)).mono ?_); rintro e w4 ⟨v4, rfl, hv4, hb4⟩; have hb4' := bel2' hb3 hb4; have hv3' := hv3.keep hb4))
      | (go_at_call 21; ((with_reducible refine (SUB'.out _ _ _ (hv1.keep hb4') (hv2.keep hb4')).mono ?_); rintro e w5 ⟨v5, rfl, hv5, hb5⟩; have hb5' := bel2' hb4' hb5))
      | (go_at_call 22; ((with_reducible refine (RC.out _ _ _ (hv3'.keep hb5) (hv4.keep hb5)).mono ?_); rintro e w6 ⟨rfl, hb6⟩; have hb6' := bel2' hb5' hb6; have hv3a := (hv3'.keep hb5).keep hb6; have hv4a := (hv4.keep hb5).keep hb6; have hv5a := hv5.keep hb6))
      | (go_at_call 24; ((with_reducible refine (rsub_n _ _ n m _ hv3a hv4a SX'.out HGE.out).mono ?_); rintro e w7 ⟨v7, rfl, hv7, hb7⟩; have hb7' := bel2' hb6' hb7))
      | (go_at_call 23; ((with_reducible refine (is_n _ _ _ (n - m) _ (hv5a.keep hb7) hv7 SD.out.2 SD.out.1).mono ?_); rw [eqN_self]; rintro e w8 ⟨rfl, hb8⟩; have hb8' := bel2' hb7' hb8; have hv3b := (hv3a.keep hb7).keep hb8; have hv4b := (hv4a.keep hb7).keep hb8))
      | (go_at_call 18; ((with_reducible refine (awake_any _).mono ?_); rintro e w9 ⟨rfl, hb9⟩; have hb9' := bel2' hb8' hb9; have hv3c := hv3b.keep hb9; have hv4c := hv4b.keep hb9))
      | (go_at_call 25; ((with_reducible refine (ADD.out _ _ _ (hv1.keep hb9') (hv2.keep hb9')).mono ?_); rintro e w10 ⟨v10, rfl, hv10, hb10⟩; have hb10' := bel2' hb9' hb10; have hv3d := hv3c.keep hb10; have hv4d := hv4c.keep hb10))
      | (go_at_call 26; ((with_reducible refine (radd_n _ _ n m _ hv3d hv4d SX'.out SY'.out).mono ?_); rintro e w11 ⟨v11, rfl, hv11, hb11⟩; have hb11' := bel2' hb10' hb11; have hv10' := hv10.keep hb11; have hv3e := hv3d.keep hb11; have hv4e := hv4d.keep hb11))
      | (go_at_call 23; ((with_reducible refine (is_n _ _ _ (n + m) _ hv10' hv11 SS.out.2 SS.out.1).mono ?_); rw [eqN_self]; rintro e w12 ⟨rfl, hb12⟩; have hb12' := bel2' hb11' hb12; have hv3f := hv3e.keep hb12; have hv4f := hv4e.keep hb12))
      | (go_at_call 27; ((with_reducible refine (CMP.out _ _ _ (hv1.keep hb12') (hv2.keep hb12')).mono ?_); rintro e w13 ⟨rfl, hb13⟩; have hb13' := bel2' hb12' hb13; have hv3g := hv3f.keep hb13; have hv4g := hv4f.keep hb13))
      | (go_at_call 22; ((with_reducible refine (RC.out _ _ _ hv3g hv4g).mono ?_); rintro e w14 ⟨rfl, hb14⟩; have hb14' := bel2' hb13' hb14)))
    go_ret
    exact ⟨rfl, hb14'⟩
  · have hlt : n < m := by omega
    have hz := cmp_nge hlt
    have SUB' : Hid (∀ va vb w, NatAt w va x → NatAt w vb y → Calls Tryd.prog 21 #[va, vb] w fun e w' => e = .returned (.tuple #[.slice none 0 0, .bool false]) ∧ Below w.heap.size w w') := Lib.hid fun va vb w h1 h2 => by
      refine (SUB.out va vb w h1 h2).mono fun e w' ⟨h3, h4⟩ => ?_
      unfold SubRet at h3
      rw [if_neg hge] at h3
      exact ⟨h3, h4⟩
    have RC : Hid (∀ va vb w, BitAt w va (bitsN n) → BitAt w vb (bitsN m) → Calls Tryd.prog 22 #[va, vb] w fun e w' => e = .returned (.int .i64 (-1)) ∧ Below w.heap.size w w') := Lib.hid fun va vb w h1 h2 => by have := rcmp_n va vb n m w h1 h2 SX'.out SY'.out; rw [hz] at this; exact this
    rw [hz] at CMP
    clear SUB hge hz hlt
    go_enter Tryd.func4, Tryd.ntmps4
    go_wp2_with (first
      | (go_at_call 14; ((with_reducible refine SA.out.mono ?_); rintro e w1 ⟨v1, rfl, hv1, rfl⟩))
      | (go_at_call 14; ((with_reducible refine SB.out.mono ?_); rintro e w2 ⟨v2, rfl, hv2, rfl⟩))
      | (go_at_call 17; ((with_reducible refine (FX.out _ _ hv1).mono ?_); rintro e w3 ⟨v3, rfl, hv3, hb3⟩))
      | (go_at_call 17; ((with_reducible refine (FY.out _ _ (hv2.keep hb3)).mono ?_); rintro e w4 ⟨v4, rfl, hv4, hb4⟩; have hb4' := bel2' hb3 hb4; have hv3' := hv3.keep hb4))
      | (go_at_call 21; ((with_reducible refine (SUB'.out _ _ _ (hv1.keep hb4') (hv2.keep hb4')).mono ?_); rintro e w5 ⟨rfl, hb5⟩; have hb5' := bel2' hb4' hb5))
      | (go_at_call 22; ((with_reducible refine (RC.out _ _ _ (hv3'.keep hb5) (hv4.keep hb5)).mono ?_); rintro e w6 ⟨rfl, hb6⟩; have hb6' := bel2' hb5' hb6; have hv3a := (hv3'.keep hb5).keep hb6; have hv4a := (hv4.keep hb5).keep hb6))
      | (go_at_call 18; ((with_reducible refine (awake_any _).mono ?_); rintro e w9 ⟨rfl, hb9⟩; have hb9' := bel2' hb6' hb9; have hv3c := hv3a.keep hb9; have hv4c := hv4a.keep hb9))
      | (go_at_call 25; ((with_reducible refine (ADD.out _ _ _ (hv1.keep hb9') (hv2.keep hb9')).mono ?_); rintro e w10 ⟨v10, rfl, hv10, hb10⟩; have hb10' := bel2' hb9' hb10; have hv3d := hv3c.keep hb10; have hv4d := hv4c.keep hb10))
      | (go_at_call 26; ((with_reducible refine (radd_n _ _ n m _ hv3d hv4d SX'.out SY'.out).mono ?_); rintro e w11 ⟨v11, rfl, hv11, hb11⟩; have hb11' := bel2' hb10' hb11; have hv10' := hv10.keep hb11; have hv3e := hv3d.keep hb11; have hv4e := hv4d.keep hb11))
      | (go_at_call 23; ((with_reducible refine (is_n _ _ _ (n + m) _ hv10' hv11 SS.out.2 SS.out.1).mono ?_); rw [eqN_self]; rintro e w12 ⟨rfl, hb12⟩; have hb12' := bel2' hb11' hb12; have hv3f := hv3e.keep hb12; have hv4f := hv4e.keep hb12))
      | (go_at_call 27; ((with_reducible refine (CMP.out _ _ _ (hv1.keep hb12') (hv2.keep hb12')).mono ?_); rintro e w13 ⟨rfl, hb13⟩; have hb13' := bel2' hb12' hb13; have hv3g := hv3f.keep hb13; have hv4g := hv4f.keep hb13))
      | (go_at_call 22; ((with_reducible refine (RC.out _ _ _ hv3g hv4g).mono ?_); rintro e w14 ⟨rfl, hb14⟩; have hb14' := bel2' hb13' hb14)))
    go_ret
    exact ⟨rfl, hb14'⟩

end Go.Proofs.YteobjelenfjifaaDoor
