import Derived.Test.YtcbocdkpdedogaaDoorR13a
import Derived.Deep.RegionHeld3
namespace Go.Proofs.YtcbocdkpdedogaaDoor
open Go.RowKit Go.Proofs.Kit Go.Proofs.Nums

set_option maxRecDepth 100000 in
set_option maxHeartbeats 8000000 in
theorem mul_r {va vb : Value} {a b : Q} {L : Nat} {w : World} (ha : RatAt w va a L) (hb : RatAt w vb b L) (hL : L ≤ 100000) (hL2 : 2 ≤ L) :
    Calls Tryd.prog 34 #[va, vb] w fun e w' => ∃ v', e = .returned v' ∧ RatN w' v' (Q.mul a b) (L + L) ∧ Below w.heap.size w w' := by
  obtain ⟨p1, l1, k1, p2, l2, k2, rfl, hn, hd⟩ := ha.shape
  obtain ⟨p3, l3, k3, p4, l4, k4, rfl, hm, hc⟩ := hb.shape
  obtain ⟨an, n, d⟩ := a
  obtain ⟨bn, m, c⟩ := b
  simp only at hn hd hm hc
  have MX := Lib.hid (fun w' (h : Below w.heap.size w w') => mul_num (hn.keep h) (hm.keep h) (by omega) (by omega))
  have MZ := Lib.hid (fun w' (h : Below w.heap.size w w') => mul_num (hd.keep h) (hc.keep h) (by omega) (by omega))
  have HQ : Hid (Q.mul ⟨an, n, d⟩ ⟨bn, m, c⟩ = Q.mk' (an != bn) (n * m) (d * c)) := Lib.hid rfl
  rw [HQ.out]
  obtain ⟨X, hX⟩ : ∃ X, n * m = X := ⟨_, rfl⟩
  obtain ⟨Z, hZ⟩ : ∃ Z, d * c = Z := ⟨_, rfl⟩
  rw [hX] at MX ⊢
  rw [hZ] at MZ ⊢
  have NM : Hid (∀ neg va vb w, neg = (an != bn) → Num w va X (L + L) → Num w vb Z (L + L) → Calls Tryd.prog 40 #[.bool neg, va, vb] w fun e w' => ∃ v, e = .returned v ∧ RatN w' v (Q.mk' (an != bn) X Z) (L + L) ∧ Below w.heap.size w w') := Lib.hid (fun neg va vb w hneg h h' => by subst hneg; exact make_num h h' (by omega) (by omega))
  have b0 := (((Blk.new w #[.bool an, .slice p1 l1 k1, .slice p2 l2 k2] 25).alloc (.cells #[.bool bn, .slice p3 l3 k3, .slice p4 l4 k4] 25)).alloc (.cells #[.bool false, .slice none 0 0, .slice none 0 0] 25)).drew
  have b1 := ((Blk.new (w.alloc (.cells #[.bool an, .slice p1 l1 k1, .slice p2 l2 k2] 25)) #[.bool bn, .slice p3 l3 k3, .slice p4 l4 k4] 25).alloc (.cells #[.bool false, .slice none 0 0, .slice none 0 0] 25)).drew
  have b2 := (Blk.new ((w.alloc (.cells #[.bool an, .slice p1 l1 k1, .slice p2 l2 k2] 25)).alloc (.cells #[.bool bn, .slice p3 l3 k3, .slice p4 l4 k4] 25)) #[.bool false, .slice none 0 0, .slice none 0 0] 25).drew
  rw [World.size_alloc] at b1
  rw [World.size_alloc, World.size_alloc] at b2
  have hBd : Below w.heap.size w (((w.alloc (.cells #[.bool an, .slice p1 l1 k1, .slice p2 l2 k2] 25)).alloc (.cells #[.bool bn, .slice p3 l3 k3, .slice p4 l4 k4] 25)).alloc (.cells #[.bool false, .slice none 0 0, .slice none 0 0] 25)).drew := ((((Below.refl _ _).alloc (Nat.le_refl _) _).alloc (by simp) _).alloc (by simp; omega) _).drew
  clear hn hd hm hc ha hb HQ hX hZ
  go_enter Tryd.func34, Tryd.ntmps34
  go_wp2_with fail
  revert b0 b1 b2 hBd
  generalize ((w.alloc (.cells #[.bool an, .slice p1 l1 k1, .slice p2 l2 k2] 25)).alloc (.cells #[.bool bn, .slice p3 l3 k3, .slice p4 l4 k4] 25)).alloc (.cells #[.bool false, .slice none 0 0, .slice none 0 0] 25) = W
  intro b0 b1 b2 hBd
  have B0 := Lib.hid b0
  have B1 := Lib.hid b1
  have B2 := Lib.hid b2
  have S0 := Lib.hid (And.intro b0.three.1 (And.intro b0.three.2.1 (And.intro b0.three.2.2 (And.intro b1.three.1 (And.intro b1.three.2.1 b1.three.2.2)))))
  clear b0 b1 b2
  go_region_held3 (fun w' => w'.cell? ⟨w.heap.size, 0, none⟩ = some (.bool an) ∧ w'.cell? ⟨w.heap.size, 1, none⟩ = some (.slice p1 l1 k1) ∧ w'.cell? ⟨w.heap.size, 2, none⟩ = some (.slice p2 l2 k2) ∧ w'.cell? ⟨w.heap.size + 1, 0, none⟩ = some (.bool bn) ∧ w'.cell? ⟨w.heap.size + 1, 1, none⟩ = some (.slice p3 l3 k3) ∧ w'.cell? ⟨w.heap.size + 1, 2, none⟩ = some (.slice p4 l4 k4))
    (first | exact S0.out | exact S3.out | exact S4.out | exact S5.out | exact six_set3 S5.out)
    (first
    | (go_at_call 48; ((with_reducible refine (MX.out _ hBd).mono ?_); rintro e w3 ⟨v3, rfl, hv3, hb3⟩; have hB3 := bel2' hBd hb3; have S3 := Lib.hid (Below.six hb3 S0.out); have B23 := Lib.hid (B2.out.keep hb3)))
    | (go_at_call 48; ((with_reducible refine (MZ.out _ hB3).mono ?_); rintro e w4 ⟨v4, rfl, hv4, hb4⟩; have hB4 := bel2' hB3 hb4; have B24 := Lib.hid (B23.out.keep hb4); have S4 := Lib.hid (Below.six hb4 S3.out); have hv34 := hv3.keep hb4))
    | (go_at_call 40; ((with_reducible refine (NM.out _ _ _ _ (by cases an <;> cases bn <;> first | rfl | decide | simp) hv34.num hv4.num).mono ?_); rintro e w5 ⟨v5, rfl, hv5, hb5⟩; have hB5 := bel2' hB4 hb5; have S5 := Lib.hid (Below.six hb5 S4.out); obtain ⟨x1, y1, z1, x2, y2, z2, rfl, r1, r2⟩ := hv5.shape; have B25 := Lib.hid (B24.out.keep hb5); obtain ⟨m0, m1, m2⟩ := B25.out.three; obtain ⟨t0, t1, t2⟩ := B25.out.free3)))
  all_goals
    go_wp2_with fail
    refine bodyPost_ret (v := .agg #[.bool (Q.mk' (an != bn) X Z).neg, .slice x1 y1 z1, .slice x2 y2 z2]) (by simp [results, Tryd.results34, go_sem, m0, m1, m2]) rfl ?_
    exact ⟨_, rfl, retN hB5 (by omega) B25.out (by simp) (by simp) (by simp) r1 r2⟩

end Go.Proofs.YtcbocdkpdedogaaDoor
