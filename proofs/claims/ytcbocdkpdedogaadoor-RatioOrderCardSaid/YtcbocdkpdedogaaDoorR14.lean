import Derived.Test.YtcbocdkpdedogaaDoorR8
import Derived.Test.YtcbocdkpdedogaaDoorM4
namespace Go.Proofs.YtcbocdkpdedogaaDoor
open Go.RowKit Go.Proofs.Kit Go.Proofs.Nums

set_option maxHeartbeats 4000000 in
theorem frac_r {x y : Int} {L : Nat} {w : World} (h1 : -9223372036854775808 ≤ x) (h2 : x ≤ 9223372036854775807) (h3 : -9223372036854775808 ≤ y) (h4 : y ≤ 9223372036854775807) (hL : 2 ≤ L) (hL2 : L ≤ 900000) :
    Calls Tryd.prog 28 #[.int .i64 x, .int .i64 y] w fun e w' => ∃ v', e = .returned v' ∧ RatN w' v' (Q.mk' (decide (x < 0) != decide (y < 0)) x.natAbs y.natAbs) L ∧ Below w.heap.size w w' := by
  obtain ⟨an, han⟩ : ∃ t, decide (x < 0) = t := ⟨_, rfl⟩
  obtain ⟨bn, hbn⟩ : ∃ t, decide (y < 0) = t := ⟨_, rfl⟩
  have SX := Lib.hid (fun w => size_z (L := L) (w := w) h1 h2 hL)
  have SY := Lib.hid (fun w => size_z (L := L) (w := w) h3 h4 hL)
  obtain ⟨X, hX⟩ : ∃ X, x.natAbs = X := ⟨_, rfl⟩
  obtain ⟨Y, hY⟩ : ∃ Y, y.natAbs = Y := ⟨_, rfl⟩
  rw [hX] at SX ⊢
  rw [hY] at SY ⊢
  rw [han, hbn]
  have NM : Hid (∀ neg va vb w, neg = (an != bn) → Num w va X L → Num w vb Y L → Calls Tryd.prog 40 #[.bool neg, va, vb] w fun e w' => ∃ v, e = .returned v ∧ RatN w' v (Q.mk' (an != bn) X Y) L ∧ Below w.heap.size w w') := Lib.hid (fun neg va vb w hneg h h' => by subst hneg; exact make_num h h' (by omega) (by omega))
  have B0 := Lib.hid (Blk.new w #[.bool false, .slice none 0 0, .slice none 0 0] 25)
  have hBd : Below w.heap.size w (w.alloc (.cells #[.bool false, .slice none 0 0, .slice none 0 0] 25)) := (Below.refl _ _).alloc (Nat.le_refl _) _
  clear hX hY h1 h2 h3 h4
  go_enter Tryd.func28, Tryd.ntmps28
  go_wp2_with (first
    | (go_at_call 61; ((with_reducible refine (SX.out _).mono ?_); rintro e w3 ⟨v3, rfl, hv3, hb3⟩; have hB3 := bel2' hBd hb3; have B03 := Lib.hid (B0.out.keep hb3)))
    | (go_at_call 61; ((with_reducible refine (SY.out _).mono ?_); rintro e w4 ⟨v4, rfl, hv4, hb4⟩; have hB4 := bel2' hB3 hb4; have B04 := Lib.hid (B03.out.keep hb4); have hv34 := hv3.keep hb4))
    | (go_at_call 40; ((with_reducible refine (NM.out _ _ _ _ (by rw [← han, ← hbn]; first | rfl | (by_cases q1 : x < 0 <;> by_cases q2 : y < 0 <;> simp [q1, q2])) hv34.num hv4.num).mono ?_); rintro e w5 ⟨v5, rfl, hv5, hb5⟩; have hB5 := bel2' hB4 hb5; obtain ⟨x1, y1, z1, x2, y2, z2, rfl, r1, r2⟩ := hv5.shape; have B25 := Lib.hid (B04.out.keep hb5); obtain ⟨m0, m1, m2⟩ := B25.out.three; obtain ⟨t0, t1, t2⟩ := B25.out.free3)))
  refine bodyPost_ret (v := .agg #[.bool (Q.mk' (an != bn) X Y).neg, .slice x1 y1 z1, .slice x2 y2 z2]) (by simp [results, Tryd.results28, go_sem, m0, m1, m2]) rfl ?_
  exact ⟨_, rfl, retN hB5 (by omega) B25.out (by simp) (by simp) (by simp) r1 r2⟩

set_option maxRecDepth 100000 in
set_option maxHeartbeats 4000000 in
theorem min_r {va vb : Value} {a b : Q} {L : Nat} {w : World} (ha : RatAt w va a L) (hb : RatAt w vb b L) (hL : L ≤ 100000) (hL2 : 2 ≤ L) :
    Calls Tryd.prog 38 #[va, vb] w fun e w' => ∃ v', e = .returned v' ∧ RatN w' v' (if Q.cmp a b ≤ 0 then a.norm else b.norm) L ∧ Below w.heap.size w w' := by
  obtain ⟨p1, l1, k1, p2, l2, k2, rfl, hn, hd⟩ := ha.shape
  obtain ⟨p3, l3, k3, p4, l4, k4, rfl, hm, hc⟩ := hb.shape
  have CM := Lib.hid (fun w' (h : Below w.heap.size w w') => cmp_r (ha.keep h) (hb.keep h) hL hL2)
  have NA := Lib.hid (fun w' (h : Below w.heap.size w w') => norm_r (ha.keep h) (by omega) hL2)
  have NB := Lib.hid (fun w' (h : Below w.heap.size w w') => norm_r (hb.keep h) (by omega) hL2)
  obtain ⟨C, hC⟩ : ∃ C, Q.cmp a b = C := ⟨_, rfl⟩
  obtain ⟨qa, hqa⟩ : ∃ q, a.norm = q := ⟨_, rfl⟩
  obtain ⟨qb, hqb⟩ : ∃ q, b.norm = q := ⟨_, rfl⟩
  obtain ⟨an, han⟩ : ∃ t, a.neg = t := ⟨_, rfl⟩
  obtain ⟨bn, hbn⟩ : ∃ t, b.neg = t := ⟨_, rfl⟩
  rw [hC, han, hbn] at CM
  rw [hqa, han] at NA
  rw [hqb, hbn] at NB
  rw [hC, hqa, hqb, han, hbn]
  clear hC hqa hqb han hbn hn hd hm hc ha hb
  have hBd : Below w.heap.size w (((w.alloc (.cells #[.bool an, .slice p1 l1 k1, .slice p2 l2 k2] 25)).alloc (.cells #[.bool bn, .slice p3 l3 k3, .slice p4 l4 k4] 25)).alloc (.cells #[.bool false, .slice none 0 0, .slice none 0 0] 25)) := (((Below.refl _ _).alloc (Nat.le_refl _) _).alloc (by simp) _).alloc (by simp; omega) _
  have b0 := ((Blk.new w #[.bool an, .slice p1 l1 k1, .slice p2 l2 k2] 25).alloc (.cells #[.bool bn, .slice p3 l3 k3, .slice p4 l4 k4] 25)).alloc (.cells #[.bool false, .slice none 0 0, .slice none 0 0] 25)
  have b1 := (Blk.new (w.alloc (.cells #[.bool an, .slice p1 l1 k1, .slice p2 l2 k2] 25)) #[.bool bn, .slice p3 l3 k3, .slice p4 l4 k4] 25).alloc (.cells #[.bool false, .slice none 0 0, .slice none 0 0] 25)
  have b2 := Blk.new ((w.alloc (.cells #[.bool an, .slice p1 l1 k1, .slice p2 l2 k2] 25)).alloc (.cells #[.bool bn, .slice p3 l3 k3, .slice p4 l4 k4] 25)) #[.bool false, .slice none 0 0, .slice none 0 0] 25
  rw [World.size_alloc] at b1
  rw [World.size_alloc, World.size_alloc] at b2
  have B0 := Lib.hid b0
  have B1 := Lib.hid b1
  have B2 := Lib.hid b2
  clear b0 b1 b2
  by_cases hc : C ≤ 0
  · rw [if_pos hc]
    go_enter Tryd.func38, Tryd.ntmps38
    go_wp2_with (first
      | (go_at_call 36; ((with_reducible refine (CM.out _ hBd).mono ?_); rintro e w3 ⟨rfl, hb3⟩; have hB3 := bel2' hBd hb3; have B03 := Lib.hid (B0.out.keep hb3); have B13 := Lib.hid (B1.out.keep hb3); have B23 := Lib.hid (B2.out.keep hb3); obtain ⟨e0, e1, e2⟩ := B03.out.three; obtain ⟨f0, f1, f2⟩ := B13.out.three))
      | (go_at_call 46; ((with_reducible refine (NA.out _ hB3).mono ?_); rintro e w5 ⟨v5, rfl, hv5, hb5⟩; have hB5 := bel2' hB3 hb5; obtain ⟨x1, y1, z1, x2, y2, z2, rfl, r1, r2⟩ := hv5.shape; have B25 := Lib.hid (B23.out.keep hb5); obtain ⟨m0, m1, m2⟩ := B25.out.three; obtain ⟨t0, t1, t2⟩ := B25.out.free3)))
    refine bodyPost_ret (v := .agg #[.bool qa.neg, .slice x1 y1 z1, .slice x2 y2 z2]) (by simp [results, Tryd.results38, go_sem, m0, m1, m2]) rfl ?_
    exact ⟨_, rfl, retN hB5 (by omega) B25.out (by simp) (by simp) (by simp) r1 r2⟩
  · rw [if_neg hc]
    go_enter Tryd.func38, Tryd.ntmps38
    go_wp2_with (first
      | (go_at_call 36; ((with_reducible refine (CM.out _ hBd).mono ?_); rintro e w3 ⟨rfl, hb3⟩; have hB3 := bel2' hBd hb3; have B03 := Lib.hid (B0.out.keep hb3); have B13 := Lib.hid (B1.out.keep hb3); have B23 := Lib.hid (B2.out.keep hb3); obtain ⟨e0, e1, e2⟩ := B03.out.three; obtain ⟨f0, f1, f2⟩ := B13.out.three))
      | (go_at_call 46; ((with_reducible refine (NB.out _ hB3).mono ?_); rintro e w5 ⟨v5, rfl, hv5, hb5⟩; have hB5 := bel2' hB3 hb5; obtain ⟨x1, y1, z1, x2, y2, z2, rfl, r1, r2⟩ := hv5.shape; have B25 := Lib.hid (B23.out.keep hb5); obtain ⟨m0, m1, m2⟩ := B25.out.three; obtain ⟨t0, t1, t2⟩ := B25.out.free3)))
    refine bodyPost_ret (v := .agg #[.bool qb.neg, .slice x1 y1 z1, .slice x2 y2 z2]) (by simp [results, Tryd.results38, go_sem, m0, m1, m2]) rfl ?_
    exact ⟨_, rfl, retN hB5 (by omega) B25.out (by simp) (by simp) (by simp) r1 r2⟩

set_option maxRecDepth 100000 in
set_option maxHeartbeats 4000000 in
theorem max_r {va vb : Value} {a b : Q} {L : Nat} {w : World} (ha : RatAt w va a L) (hb : RatAt w vb b L) (hL : L ≤ 100000) (hL2 : 2 ≤ L) :
    Calls Tryd.prog 39 #[va, vb] w fun e w' => ∃ v', e = .returned v' ∧ RatN w' v' (if Q.cmp a b ≥ 0 then a.norm else b.norm) L ∧ Below w.heap.size w w' := by
  obtain ⟨p1, l1, k1, p2, l2, k2, rfl, hn, hd⟩ := ha.shape
  obtain ⟨p3, l3, k3, p4, l4, k4, rfl, hm, hc⟩ := hb.shape
  have CM := Lib.hid (fun w' (h : Below w.heap.size w w') => cmp_r (ha.keep h) (hb.keep h) hL hL2)
  have NA := Lib.hid (fun w' (h : Below w.heap.size w w') => norm_r (ha.keep h) (by omega) hL2)
  have NB := Lib.hid (fun w' (h : Below w.heap.size w w') => norm_r (hb.keep h) (by omega) hL2)
  obtain ⟨C, hC⟩ : ∃ C, Q.cmp a b = C := ⟨_, rfl⟩
  obtain ⟨qa, hqa⟩ : ∃ q, a.norm = q := ⟨_, rfl⟩
  obtain ⟨qb, hqb⟩ : ∃ q, b.norm = q := ⟨_, rfl⟩
  obtain ⟨an, han⟩ : ∃ t, a.neg = t := ⟨_, rfl⟩
  obtain ⟨bn, hbn⟩ : ∃ t, b.neg = t := ⟨_, rfl⟩
  rw [hC, han, hbn] at CM
  rw [hqa, han] at NA
  rw [hqb, hbn] at NB
  rw [hC, hqa, hqb, han, hbn]
  clear hC hqa hqb han hbn hn hd hm hc ha hb
  have hBd : Below w.heap.size w (((w.alloc (.cells #[.bool an, .slice p1 l1 k1, .slice p2 l2 k2] 25)).alloc (.cells #[.bool bn, .slice p3 l3 k3, .slice p4 l4 k4] 25)).alloc (.cells #[.bool false, .slice none 0 0, .slice none 0 0] 25)) := (((Below.refl _ _).alloc (Nat.le_refl _) _).alloc (by simp) _).alloc (by simp; omega) _
  have b0 := ((Blk.new w #[.bool an, .slice p1 l1 k1, .slice p2 l2 k2] 25).alloc (.cells #[.bool bn, .slice p3 l3 k3, .slice p4 l4 k4] 25)).alloc (.cells #[.bool false, .slice none 0 0, .slice none 0 0] 25)
  have b1 := (Blk.new (w.alloc (.cells #[.bool an, .slice p1 l1 k1, .slice p2 l2 k2] 25)) #[.bool bn, .slice p3 l3 k3, .slice p4 l4 k4] 25).alloc (.cells #[.bool false, .slice none 0 0, .slice none 0 0] 25)
  have b2 := Blk.new ((w.alloc (.cells #[.bool an, .slice p1 l1 k1, .slice p2 l2 k2] 25)).alloc (.cells #[.bool bn, .slice p3 l3 k3, .slice p4 l4 k4] 25)) #[.bool false, .slice none 0 0, .slice none 0 0] 25
  rw [World.size_alloc] at b1
  rw [World.size_alloc, World.size_alloc] at b2
  have B0 := Lib.hid b0
  have B1 := Lib.hid b1
  have B2 := Lib.hid b2
  clear b0 b1 b2
  by_cases hc : C ≥ 0
  · rw [if_pos hc]
    go_enter Tryd.func39, Tryd.ntmps39
    go_wp2_with (first
      | (go_at_call 36; ((with_reducible refine (CM.out _ hBd).mono ?_); rintro e w3 ⟨rfl, hb3⟩; have hB3 := bel2' hBd hb3; have B03 := Lib.hid (B0.out.keep hb3); have B13 := Lib.hid (B1.out.keep hb3); have B23 := Lib.hid (B2.out.keep hb3); obtain ⟨e0, e1, e2⟩ := B03.out.three; obtain ⟨f0, f1, f2⟩ := B13.out.three))
      | (go_at_call 46; ((with_reducible refine (NA.out _ hB3).mono ?_); rintro e w5 ⟨v5, rfl, hv5, hb5⟩; have hB5 := bel2' hB3 hb5; obtain ⟨x1, y1, z1, x2, y2, z2, rfl, r1, r2⟩ := hv5.shape; have B25 := Lib.hid (B23.out.keep hb5); obtain ⟨m0, m1, m2⟩ := B25.out.three; obtain ⟨t0, t1, t2⟩ := B25.out.free3)))
    refine bodyPost_ret (v := .agg #[.bool qa.neg, .slice x1 y1 z1, .slice x2 y2 z2]) (by simp [results, Tryd.results39, go_sem, m0, m1, m2]) rfl ?_
    exact ⟨_, rfl, retN hB5 (by omega) B25.out (by simp) (by simp) (by simp) r1 r2⟩
  · rw [if_neg hc]
    go_enter Tryd.func39, Tryd.ntmps39
    go_wp2_with (first
      | (go_at_call 36; ((with_reducible refine (CM.out _ hBd).mono ?_); rintro e w3 ⟨rfl, hb3⟩; have hB3 := bel2' hBd hb3; have B03 := Lib.hid (B0.out.keep hb3); have B13 := Lib.hid (B1.out.keep hb3); have B23 := Lib.hid (B2.out.keep hb3); obtain ⟨e0, e1, e2⟩ := B03.out.three; obtain ⟨f0, f1, f2⟩ := B13.out.three))
      | (go_at_call 46; ((with_reducible refine (NB.out _ hB3).mono ?_); rintro e w5 ⟨v5, rfl, hv5, hb5⟩; have hB5 := bel2' hB3 hb5; obtain ⟨x1, y1, z1, x2, y2, z2, rfl, r1, r2⟩ := hv5.shape; have B25 := Lib.hid (B23.out.keep hb5); obtain ⟨m0, m1, m2⟩ := B25.out.three; obtain ⟨t0, t1, t2⟩ := B25.out.free3)))
    refine bodyPost_ret (v := .agg #[.bool qb.neg, .slice x1 y1 z1, .slice x2 y2 z2]) (by simp [results, Tryd.results39, go_sem, m0, m1, m2]) rfl ?_
    exact ⟨_, rfl, retN hB5 (by omega) B25.out (by simp) (by simp) (by simp) r1 r2⟩

end Go.Proofs.YtcbocdkpdedogaaDoor
