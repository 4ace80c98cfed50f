/- Walk of FixedRatio. -/
import Derived.Test.YtaommeapngbgeaaDoorF7
import Derived.Deep.RegionHeld3
namespace Go.Proofs.Nums

/-- The rounded products against the exact one. -/
theorem ratio_low (n m p : Nat) (hp : 0 < p) : Q.cmp (Q.mk' false (quo (n * m) p false) p) (Q.mul (Q.mk' false n p) (Q.mk' false m p)) ≤ 0 := by
  have e : Q.mul (Q.mk' false n p) (Q.mk' false m p) = Q.mk' false (n * m) (p * p) := (Q.mul_norm ⟨false, n, p⟩ ⟨false, m, p⟩).symm
  rw [e]
  refine Q.cmp_le (Q.mk'_nf _ _ _) (Q.mk'_nf _ _ _) (Q.mk'_rep _ _ _ hp) (Q.mk'_rep _ _ _ (Nat.mul_pos hp hp)) hp (Nat.mul_pos hp hp) ?_
  have h1 : quo (n * m) p false * p ≤ n * m := by
    unfold quo
    simp only [Bool.false_and, Bool.false_eq_true, if_false, Nat.add_zero]
    exact Nat.div_mul_le_self _ _
  unfold sg
  simp only [Bool.false_eq_true, if_false]
  have h2 : quo (n * m) p false * (p * p) ≤ n * m * p := by
    rw [← Nat.mul_assoc]
    exact Nat.mul_le_mul_right _ h1
  exact_mod_cast h2
theorem ratio_high (n m p : Nat) (hp : 0 < p) : Q.cmp (Q.mul (Q.mk' false n p) (Q.mk' false m p)) (Q.mk' false (quo (n * m) p true) p) ≤ 0 := by
  have e : Q.mul (Q.mk' false n p) (Q.mk' false m p) = Q.mk' false (n * m) (p * p) := (Q.mul_norm ⟨false, n, p⟩ ⟨false, m, p⟩).symm
  rw [e]
  refine Q.cmp_le (Q.mk'_nf _ _ _) (Q.mk'_nf _ _ _) (Q.mk'_rep _ _ _ (Nat.mul_pos hp hp)) (Q.mk'_rep _ _ _ hp) (Nat.mul_pos hp hp) hp ?_
  have h1 : n * m ≤ quo (n * m) p true * p := by
    unfold quo
    have := Nat.div_add_mod (n * m) p
    have h3 := Nat.mod_lt (n * m) hp
    by_cases h : n * m % p = 0
    · simp only [h, ne_eq, not_true_eq_false, decide_false, Bool.and_false, Bool.false_eq_true, if_false, Nat.add_zero]
      rw [Nat.mul_comm (n * m / p) p]; omega
    · have e : (true && decide (n * m % p ≠ 0)) = true := by simp [h]
      rw [if_pos e, Nat.add_mul, Nat.one_mul, Nat.mul_comm (n * m / p) p]
      omega
  unfold sg
  simp only [Bool.false_eq_true, if_false]
  have h2 : n * m * p ≤ quo (n * m) p true * (p * p) := by
    rw [← Nat.mul_assoc]
    exact Nat.mul_le_mul_right _ h1
  exact_mod_cast h2
theorem quo_gap (n p : Nat) : quo n p false ≤ quo n p true ∧ quo n p true - quo n p false ≤ 1 := by
  unfold quo
  simp only [Bool.false_and, Bool.false_eq_true, if_false, Bool.true_and]
  split <;> omega

end Go.Proofs.Nums
namespace Go.Proofs.YtaommeapngbgeaaDoor
open Go.RowKit Go.Proofs.Kit Go.Proofs.Nums

set_option maxRecDepth 100000 in
set_option maxHeartbeats 8000000 in
theorem walk_FixedRatio {w : World} (va : Value) (a : List Nat) (ha : NatAt w va a) (vb : Value) (b : List Nat) (hb : NatAt w vb b) (z : Int) (_h3 : -9223372036854775808 ≤ z) (_h4 : z ≤ 9223372036854775807) :
    Calls Tryd.prog 6 #[va, vb, .int .i64 z] w fun e w' => e = .returned (.bool true) ∧ Below w.heap.size w w' := by
  obtain ⟨d, hd, IN0⟩ := in_c z
  obtain ⟨n, SA0⟩ := short_at ha 2 (by omega) 2 rfl
  obtain ⟨m, SB0⟩ := short_at hb 2 (by omega) 2 rfl
  have IN := Lib.hid IN0
  have SA := Lib.hid SA0
  have SB := Lib.hid SB0
  have hp0 : 0 < 10 ^ d := Nat.pow_pos (by omega)
  have PT : Hid (∀ w, Calls Tryd.prog 24 #[.int .i64 d] w fun e w' => ∃ v', e = .returned v' ∧ Num w' v' (10 ^ d) 61 ∧ Below w.heap.size w w') := Lib.hid (fun w => by
    refine (pow10_in d w (by omega)).mono ?_
    rintro e w' ⟨v', o, rfl, h1, h2, h3⟩
    exact ⟨v', rfl, ⟨o, h1, h2.out.1, h2.out.2⟩, h3⟩)
  have hlow := ratio_low n m (10 ^ d) hp0
  have hhigh := ratio_high n m (10 ^ d) hp0
  have hgap := quo_gap (n * m) (10 ^ d)
  have RA0 : ∀ v w, Num w v n 2 → Calls Tryd.prog 22 #[v, .int .i64 d] w (GivesN (Q.mk' false n (10 ^ d)) 300 w) := fun v w h => gn_of (fratio_num h (by omega) rfl hd)
  have RB0 : ∀ v w, Num w v m 2 → Calls Tryd.prog 22 #[v, .int .i64 d] w (GivesN (Q.mk' false m (10 ^ d)) 300 w) := fun v w h => gn_of (fratio_num h (by omega) rfl hd)
  have MK0 : ∀ v vp w, Num w v n 2 → Num w vp (10 ^ d) 61 → Calls Tryd.prog 23 #[.bool false, v, vp] w (GivesN (Q.mk' false n (10 ^ d)) 300 w) := fun v vp w h h' => gn_of (make_num (h.wider (by omega)) (h'.wider (by omega)) (by omega) (by omega))
  have M0 : ∀ va vb w, Num w va n 2 → Num w vb m 2 → Calls Tryd.prog 15 #[va, vb, .int .i64 d, .bool false] w fun e w' => ∃ v', e = .returned v' ∧ Nrm w' v' (quo (n * m) (10 ^ d) false) 300 ∧ Below w.heap.size w w' := fun va vb w h h' => fmul_num h h' (by omega) (by omega) rfl hd
  have M1 : ∀ va vb w, Num w va n 2 → Num w vb m 2 → Calls Tryd.prog 15 #[va, vb, .int .i64 d, .bool true] w fun e w' => ∃ v', e = .returned v' ∧ Nrm w' v' (quo (n * m) (10 ^ d) true) 300 ∧ Below w.heap.size w w' := fun va vb w h h' => fmul_num h h' (by omega) (by omega) rfl hd
  have RQ0 : ∀ x v w, Nrm w v x 300 → Calls Tryd.prog 22 #[v, .int .i64 d] w (GivesN (Q.mk' false x (10 ^ d)) 300 w) := fun x v w h => gn_of (fratio_num h.num (by omega) rfl hd)
  obtain ⟨l, hl⟩ : ∃ l, quo (n * m) (10 ^ d) false = l := ⟨_, rfl⟩
  obtain ⟨h, hh⟩ : ∃ h, quo (n * m) (10 ^ d) true = h := ⟨_, rfl⟩
  rw [hl, hh] at hgap
  rw [hl] at hlow M0
  rw [hh] at hhigh M1
  obtain ⟨⟨an, aN, aD⟩, hqa⟩ : ∃ q, Q.mk' false n (10 ^ d) = q := ⟨_, rfl⟩
  obtain ⟨⟨bn, bN, bD⟩, hqb⟩ : ∃ q, Q.mk' false m (10 ^ d) = q := ⟨_, rfl⟩
  obtain ⟨⟨ln, lN, lD⟩, hql⟩ : ∃ q, Q.mk' false l (10 ^ d) = q := ⟨_, rfl⟩
  obtain ⟨⟨hn, hN, hD⟩, hqh⟩ : ∃ q, Q.mk' false h (10 ^ d) = q := ⟨_, rfl⟩
  rw [hqa, hqb, hql] at hlow
  rw [hqa, hqb, hqh] at hhigh
  obtain ⟨⟨xn, xN, xD⟩, hqx⟩ : ∃ q, Q.mul ⟨an, aN, aD⟩ ⟨bn, bN, bD⟩ = q := ⟨_, rfl⟩
  rw [hqx] at hlow hhigh
  rw [hqa] at RA0 MK0
  rw [hqb] at RB0
  have RL0 := RQ0 l
  have RH0 := RQ0 h
  rw [hql] at RL0
  rw [hqh] at RH0
  have RA := Lib.hid RA0
  have RB := Lib.hid RB0
  have MK := Lib.hid MK0
  have FM0 := Lib.hid M0
  have FM1 := Lib.hid M1
  have RL := Lib.hid RL0
  have RH := Lib.hid RH0
  have EQ : Hid (∀ va vb w', RatN w' va ⟨an, aN, aD⟩ 300 → RatN w' vb ⟨an, aN, aD⟩ 300 → Calls Tryd.prog 21 #[va, vb] w' fun e w'' => e = .returned (.bool true) ∧ Below w'.heap.size w' w'') := Lib.hid (fun va vb w' h h' => by
    have := req_r h.l h'.l (Nat.le_trans h.lens.1 (by omega)) (Nat.le_trans h.lens.2 (by omega)) (Nat.le_trans h'.lens.1 (by omega)) (Nat.le_trans h'.lens.2 (by omega))
    rw [eqR_self] at this
    exact this)
  have MU : Hid (∀ va vb w', RatN w' va ⟨an, aN, aD⟩ 300 → RatN w' vb ⟨bn, bN, bD⟩ 300 → Calls Tryd.prog 25 #[va, vb] w' (GivesN ⟨xn, xN, xD⟩ 600 w')) := Lib.hid (fun va vb w' h h' => by
    have := gn_of (mul_r h.at h'.at (by omega) (by omega))
    rw [hqx] at this
    exact this)
  have SU : Hid (∀ va vb w', Nrm w' va h 300 → Nrm w' vb l 300 → Calls Tryd.prog 26 #[va, vb] w' fun e w'' => ∃ v', e = .returned (.tuple #[v', .bool true]) ∧ Nrm w'' v' (h - l) 300 ∧ Below w'.heap.size w' w'') := Lib.hid (fun va vb w' g g' => sub_ge g.num g'.num (by omega) (by omega) hgap.1)
  have ON : Hid (∀ w, Calls Tryd.prog 28 #[.int .u64 1] w fun e w' => ∃ v', e = .returned v' ∧ Nrm w' v' 1 2 ∧ Below w.heap.size w w') := Lib.hid (fun w => nrm_ofz (n := 1) rfl (by omega) (by omega))
  obtain ⟨c0, hc0⟩ : ∃ c, cmpN (h - l) 1 = c := ⟨_, rfl⟩
  have hd0 : decide (c0 ≤ 0) = true := by
    rw [← hc0, decide_eq_true_eq]
    unfold cmpN
    split
    · decide
    · rw [if_neg (by omega)]; decide
  have CN : Hid (∀ va vb w', Nrm w' va (h - l) 300 → Nrm w' vb 1 2 → Calls Tryd.prog 27 #[va, vb] w' fun e w'' => e = .returned (.int .i64 c0) ∧ Below w'.heap.size w' w'') := Lib.hid (fun va vb w' g g' => by
    have := cmp_num g.num g'.num (by omega) (by omega)
    rw [hc0] at this
    exact this)
  obtain ⟨c1, hc1⟩ : ∃ c, Q.cmp ⟨ln, lN, lD⟩ ⟨xn, xN, xD⟩ = c := ⟨_, rfl⟩
  obtain ⟨c2, hc2⟩ : ∃ c, Q.cmp ⟨xn, xN, xD⟩ ⟨hn, hN, hD⟩ = c := ⟨_, rfl⟩
  rw [hc1] at hlow
  rw [hc2] at hhigh
  have wid : ∀ {w' : World} {v : Value} {q : Q}, RatN w' v q 300 → RatAt w' v q 600 := fun g => by
    obtain ⟨a1, a2, e, g1, g2⟩ := g
    exact ⟨a1, a2, e, (g1.wider (by omega)).num, (g2.wider (by omega)).num⟩
  have CL : Hid (∀ va vb w', RatN w' va ⟨ln, lN, lD⟩ 300 → RatN w' vb ⟨xn, xN, xD⟩ 600 → Calls Tryd.prog 29 #[va, vb] w' fun e w'' => e = .returned (.int .i64 c1) ∧ Below w'.heap.size w' w'') := Lib.hid (fun va vb w' g g' => by
    have := cmp_r (wid g) g'.at (by omega) (by omega)
    rw [hc1] at this
    exact this)
  have CH : Hid (∀ va vb w', RatN w' va ⟨xn, xN, xD⟩ 600 → RatN w' vb ⟨hn, hN, hD⟩ 300 → Calls Tryd.prog 29 #[va, vb] w' fun e w'' => e = .returned (.int .i64 c2) ∧ Below w'.heap.size w' w'') := Lib.hid (fun va vb w' g g' => by
    have := cmp_r g.at (wid g') (by omega) (by omega)
    rw [hc2] at this
    exact this)
  have hd1 : decide (c1 ≤ 0) = true := decide_eq_true hlow
  have hd2 : decide (c2 ≤ 0) = true := decide_eq_true hhigh
  clear wid hlow hhigh hgap hc0 hc1 hc2 hqx hqa hqb hql hqh hl hh RA0 RB0 MK0 M0 M1 RL0 RH0 RQ0 hp0 hd IN0 SA0 SB0 ha hb _h3 _h4
  go_enter Tryd.func6, Tryd.ntmps6
  go_upto_region 7 with (first
    | (go_at_call 10; ((with_reducible refine (SA.out).mono ?_); rintro e w1 ⟨v1, rfl, hv1, rfl⟩))
    | (go_at_call 10; ((with_reducible refine (SB.out).mono ?_); rintro e w1 ⟨v2, rfl, hv2, rfl⟩))
    | (go_at_call 11; ((with_reducible refine (IN.out _).mono ?_); rintro e w1 ⟨rfl, rfl⟩))
    | (go_at_call 22; ((with_reducible refine (RA.out _ _ hv1).mono ?_); rintro e w1 ⟨p1, l1, k1, p2, l2, k2, rfl, hq1, hb1⟩; have hv11 := hv1.keep hb1; have hv21 := hv2.keep hb1))
    | (go_at_call 24; ((with_reducible refine (PT.out _).mono ?_); rintro e w2 ⟨v3, rfl, hv3, hb2⟩; have hB2 := bel2' hb1 hb2; have hv12 := hv11.keep hb2; have hv22 := hv21.keep hb2; have hq12 := hq1.keep hb2))
    | (go_at_call 23; ((with_reducible refine (MK.out _ _ _ hv12 hv3).mono ?_); rintro e w3 ⟨p3, l3, k3, p4, l4, k4, rfl, hq3, hb3⟩; have hB3 := bel2' hB2 hb3; have hv13 := hv12.keep hb3; have hv23 := hv22.keep hb3; have hq13 := hq12.keep hb3))
    | (go_at_call 21; ((with_reducible refine (EQ.out _ _ _ hq13 hq3).mono ?_); rintro e w4 ⟨rfl, hb4⟩; have hB4 := bel2' hB3 hb4; have hv14 := hv13.keep hb4; have hv24 := hv23.keep hb4))
    | (go_at_call 22; ((with_reducible refine (RA.out _ _ hv14).mono ?_); rintro e w5 ⟨p5, l5, k5, p6, l6, k6, rfl, hq5, hb5⟩; have hB5 := bel2' hB4 hb5; have hv15 := hv14.keep hb5; have hv25 := hv24.keep hb5))
    | (go_at_call 22; ((with_reducible refine (RB.out _ _ hv25).mono ?_); rintro e w6 ⟨p7, l7, k7, p8, l8, k8, rfl, hq6, hb6⟩; have hB6 := bel2' hB5 hb6; have hv16 := hv15.keep hb6; have hv26 := hv25.keep hb6; have hq56 := hq5.keep hb6))
    | (go_at_call 25; ((with_reducible refine (MU.out _ _ _ hq56 hq6).mono ?_); rintro e w7 ⟨p9, l9, k9, p10, l10, k10, rfl, hx7, hb7⟩; have hB7 := bal (bel2' hB6 hb7) (.cells #[.bool xn, .slice p9 l9 k9, .slice p10 l10 k10] 42); have hv17 := (hv16.keep hb7).keep ((Below.refl _ _).alloc (Nat.le_refl _) (.cells #[.bool xn, .slice p9 l9 k9, .slice p10 l10 k10] 42)); have hv27 := (hv26.keep hb7).keep ((Below.refl _ _).alloc (Nat.le_refl _) (.cells #[.bool xn, .slice p9 l9 k9, .slice p10 l10 k10] 42)); have X7 := Lib.hid (Blk.new w7 #[.bool xn, .slice p9 l9 k9, .slice p10 l10 k10] 42); have hx8 := hx7.al (.cells #[.bool xn, .slice p9 l9 k9, .slice p10 l10 k10] 42)))
    | (go_at_call 15; ((with_reducible refine (FM0.out _ _ _ hv17 hv27).mono ?_); rintro e w9 ⟨v9, rfl, hl9, hb9⟩; have hB9 := bel2' hB7 hb9; have hv19 := hv17.keep hb9; have hv29 := hv27.keep hb9; have X9 := Lib.hid (X7.out.keep hb9); have hx9 := hx8.keep hb9))
    | (go_at_call 15; ((with_reducible refine (FM1.out _ _ _ hv19 hv29).mono ?_); rintro e w10 ⟨v10, rfl, hh10, hb10⟩; have hB10 := bel2' hB9 hb10; have hl10 := hl9.keep hb10; have X10 := Lib.hid (X9.out.keep hb10); have hx10 := hx9.keep hb10))
    | (go_at_call 26; ((with_reducible refine (SU.out _ _ _ hh10 hl10).mono ?_); rintro e w11 ⟨v11, rfl, hg11, hb11⟩; have hB11 := bel2' hB10 hb11; have hl11 := hl10.keep hb11; have hh11 := hh10.keep hb11; have X11 := Lib.hid (X10.out.keep hb11); have hx11 := hx10.keep hb11)))
  have XT := Lib.hid X11.out.drew
  have hBT := hB11.drew
  have hgT := hg11.keep (Below.refl _ _).drew
  have hlT := hl11.keep (Below.refl _ _).drew
  have hhT := hh11.keep (Below.refl _ _).drew
  have hxT := hx11.keep (Below.refl _ _).drew
  go_region_held3 (fun w' => w'.cell? ⟨w7.heap.size, 0, none⟩ = some (.bool xn) ∧ w'.cell? ⟨w7.heap.size, 1, none⟩ = some (.slice p9 l9 k9) ∧ w'.cell? ⟨w7.heap.size, 2, none⟩ = some (.slice p10 l10 k10))
    (first | exact XT.out.three | exact X12.out.three | exact X13.out.three | exact X14.out.three | exact X15.out.three | exact X16.out.three | exact X17.out.three | exact X18.out.three)
    (first
      | (go_at_call 13; ((with_reducible refine (awake3 _).mono ?_); rintro e w12 ⟨rfl, hb12⟩; have hB12 := bel2' hBT hb12; have X12 := Lib.hid (XT.out.keep hb12); have hg12 := hgT.keep hb12; have hl12 := hlT.keep hb12; have hh12 := hhT.keep hb12; have hx12 := hxT.keep hb12))
      | (go_at_call 28; ((with_reducible refine (ON.out _).mono ?_); rintro e w13 ⟨v13, rfl, ho13, hb13⟩; have hB13 := bel2' hB12 hb13; have X13 := Lib.hid (X12.out.keep hb13); have hg13 := hg12.keep hb13; have hl13 := hl12.keep hb13; have hh13 := hh12.keep hb13; have hx13 := hx12.keep hb13))
      | (go_at_call 27; ((with_reducible refine (CN.out _ _ _ hg13 ho13).mono ?_); rintro e w14 ⟨rfl, hb14⟩; have hB14 := bel2' hB13 hb14; have X14 := Lib.hid (X13.out.keep hb14); have hl14 := hl13.keep hb14; have hh14 := hh13.keep hb14; have hx14 := hx13.keep hb14))
      | (go_at_call 22; ((with_reducible refine (RL.out _ _ hl14).mono ?_); rintro e w15 ⟨p11, l11, k11, p12, l12, k12, rfl, hq15, hb15⟩; have hB15 := bel2' hB14 hb15; have X15 := Lib.hid (X14.out.keep hb15); have hh15 := hh14.keep hb15; have hx15 := hx14.keep hb15))
      | (go_at_call 29; ((with_reducible refine (CL.out _ _ _ hq15 hx15).mono ?_); rintro e w16 ⟨rfl, hb16⟩; have hB16 := bel2' hB15 hb16; have X16 := Lib.hid (X15.out.keep hb16); have hh16 := hh15.keep hb16; have hx16 := hx15.keep hb16))
      | (go_at_call 22; ((with_reducible refine (RH.out _ _ hh16).mono ?_); rintro e w17 ⟨p13, l13, k13, p14, l14, k14, rfl, hq17, hb17⟩; have hB17 := bel2' hB16 hb17; have X17 := Lib.hid (X16.out.keep hb17); have hx17 := hx16.keep hb17))
      | (go_at_call 29; ((with_reducible refine (CH.out _ _ _ hx17 hq17).mono ?_); rintro e w18 ⟨rfl, hb18⟩; have hB18 := bel2' hB17 hb18; have X18 := Lib.hid (X17.out.keep hb18))))
  all_goals
    go_wp2_with fail
    go_ret
    exact ⟨rfl, hB18⟩

end Go.Proofs.YtaommeapngbgeaaDoor
