import Derived.Test.YthplbhgbgcfogaaR11
import Derived.Test.YthplbhgbgcfogaaR13a
import Derived.Deep.RegionHeld3
import Derived.Test.YthplbhgbgcfogaaMR
namespace Go.Proofs.Ythplbhgbgcfogaa
open Go.RowKit Go.Proofs.Kit Go.Proofs.Nums

set_option maxRecDepth 100000 in
set_option maxHeartbeats 8000000 in
theorem rdiv_r {va vb : Value} {a b : Q} {w : World} (ha : RAt w va a) (hb : RAt w vb b) (sa : a.Sz 10000) (sb : b.Sz 10000) :
    Calls Try.prog 25 #[va, vb] w fun e w' => ∃ v', e = .returned v' ∧ RFr w' v' (Q.divR a b) w.heap.size ∧ Below w.heap.size w w' := by
  obtain ⟨p1, l1, k1, p2, l2, k2, rfl, hn, hd⟩ := ha.shape
  obtain ⟨p3, l3, k3, p4, l4, k4, rfl, hm, hc⟩ := hb.shape
  obtain ⟨an, n, d⟩ := a
  obtain ⟨bn, m, c⟩ := b
  simp only at hn hd hm hc
  have lx : Hid ((bitsN (n * c)).length ≤ 20000) := Lib.hid (Nat.le_trans (len_mul sa.1 sb.2) (by omega))
  have lz : Hid ((bitsN (d * m)).length ≤ 20000) := Lib.hid (Nat.le_trans (len_mul sa.2 sb.1) (by omega))
  have MX := Lib.hid (fun w' (h : Below w.heap.size w w') => rmul_b _ _ n c w' (hn.keep h) (hc.keep h) (Nat.le_trans sa.1 (by omega)) (Nat.le_trans sb.2 (by omega)))
  have MZ := Lib.hid (fun w' (h : Below w.heap.size w w') => rmul_b _ _ d m w' (hd.keep h) (hm.keep h) (Nat.le_trans sa.2 (by omega)) (Nat.le_trans sb.1 (by omega)))
  have HQ : Hid (Q.divR ⟨an, n, d⟩ ⟨bn, m, c⟩ = Q.mk' (an != bn) (n * c) (d * m)) := Lib.hid rfl
  rw [HQ.out]
  obtain ⟨X, hX⟩ : ∃ X, n * c = X := ⟨_, rfl⟩
  obtain ⟨Z, hZ⟩ : ∃ Z, d * m = Z := ⟨_, rfl⟩
  rw [hX] at lx MX ⊢
  rw [hZ] at lz MZ ⊢
  have NM : Hid (∀ neg va vb w, neg = (an != bn) → BitAt w va (bitsN X) → BitAt w vb (bitsN Z) → Calls Try.prog 37 #[.bool neg, va, vb] w fun e w' => ∃ v, e = .returned v ∧ RFr w' v (Q.mk' (an != bn) X Z) w.heap.size ∧ Below w.heap.size w w') := Lib.hid (fun neg va vb w hneg h h' => by subst hneg; exact rnorm_r h h' (Nat.le_trans lx.out (by omega)) (Nat.le_trans lz.out (by omega)))
  have b0 := (((Blk.new w #[.bool an, .slice p1 l1 k1, .slice p2 l2 k2] 51).alloc (.cells #[.bool bn, .slice p3 l3 k3, .slice p4 l4 k4] 51)).alloc (.cells #[.bool false, .slice none 0 0, .slice none 0 0] 51)).drew
  have b1 := ((Blk.new (w.alloc (.cells #[.bool an, .slice p1 l1 k1, .slice p2 l2 k2] 51)) #[.bool bn, .slice p3 l3 k3, .slice p4 l4 k4] 51).alloc (.cells #[.bool false, .slice none 0 0, .slice none 0 0] 51)).drew
  have b2 := (Blk.new ((w.alloc (.cells #[.bool an, .slice p1 l1 k1, .slice p2 l2 k2] 51)).alloc (.cells #[.bool bn, .slice p3 l3 k3, .slice p4 l4 k4] 51)) #[.bool false, .slice none 0 0, .slice none 0 0] 51).drew
  rw [World.size_alloc] at b1
  rw [World.size_alloc, World.size_alloc] at b2
  have hBd : Below w.heap.size w (((w.alloc (.cells #[.bool an, .slice p1 l1 k1, .slice p2 l2 k2] 51)).alloc (.cells #[.bool bn, .slice p3 l3 k3, .slice p4 l4 k4] 51)).alloc (.cells #[.bool false, .slice none 0 0, .slice none 0 0] 51)).drew := ((((Below.refl _ _).alloc (Nat.le_refl _) _).alloc (by simp) _).alloc (by simp; omega) _).drew
  have hsz : w.heap.size + 3 ≤ (((w.alloc (.cells #[.bool an, .slice p1 l1 k1, .slice p2 l2 k2] 51)).alloc (.cells #[.bool bn, .slice p3 l3 k3, .slice p4 l4 k4] 51)).alloc (.cells #[.bool false, .slice none 0 0, .slice none 0 0] 51)).drew.heap.size := by simp
  clear hn hd hm hc ha hb sa sb HQ hX hZ lx lz
  go_enter Try.func25, Try.ntmps25
  go_wp2_with fail
  revert b0 b1 b2 hBd hsz
  generalize ((w.alloc (.cells #[.bool an, .slice p1 l1 k1, .slice p2 l2 k2] 51)).alloc (.cells #[.bool bn, .slice p3 l3 k3, .slice p4 l4 k4] 51)).alloc (.cells #[.bool false, .slice none 0 0, .slice none 0 0] 51) = W
  intro b0 b1 b2 hBd hsz
  have B0 := Lib.hid b0
  have B1 := Lib.hid b1
  have B2 := Lib.hid b2
  have S0 := Lib.hid (And.intro b0.three.1 (And.intro b0.three.2.1 (And.intro b0.three.2.2 (And.intro b1.three.1 (And.intro b1.three.2.1 b1.three.2.2)))))
  clear b0 b1 b2
  go_region_held3 (fun w' => w'.cell? ⟨w.heap.size, 0, none⟩ = some (.bool an) ∧ w'.cell? ⟨w.heap.size, 1, none⟩ = some (.slice p1 l1 k1) ∧ w'.cell? ⟨w.heap.size, 2, none⟩ = some (.slice p2 l2 k2) ∧ w'.cell? ⟨w.heap.size + 1, 0, none⟩ = some (.bool bn) ∧ w'.cell? ⟨w.heap.size + 1, 1, none⟩ = some (.slice p3 l3 k3) ∧ w'.cell? ⟨w.heap.size + 1, 2, none⟩ = some (.slice p4 l4 k4))
    (first | exact S0.out | exact S3.out | exact S4.out | exact S5.out | exact six_set3 S5.out)
    (first
    | (go_at_call 41; ((with_reducible refine (MX.out _ hBd).mono ?_); rintro e w3 ⟨v3, rfl, hv3, hb3⟩; have hB3 := bel2' hBd hb3; have S3 := Lib.hid (Below.six hb3 S0.out); have B23 := Lib.hid (B2.out.keep hb3)))
    | (go_at_call 41; ((with_reducible refine (MZ.out _ hB3).mono ?_); rintro e w4 ⟨v4, rfl, hv4, hb4⟩; have hB4 := bel2' hB3 hb4; have B24 := Lib.hid (B23.out.keep hb4); have S4 := Lib.hid (Below.six hb4 S3.out); have hv34 := hv3.keep hb4))
    | (go_at_call 37; ((with_reducible refine (NM.out _ _ _ _ (by cases an <;> cases bn <;> first | rfl | decide | simp) hv34 hv4).mono ?_); rintro e w5 ⟨v5, rfl, hv5, hb5⟩; have hB5 := bel2' hB4 hb5; have S5 := Lib.hid (Below.six hb5 S4.out); obtain ⟨x1, y1, z1, x2, y2, z2, rfl, r1, r2, r3, r4⟩ := hv5.shape; have B25 := Lib.hid (B24.out.keep hb5); obtain ⟨m0, m1, m2⟩ := B25.out.three; obtain ⟨t0, t1, t2⟩ := B25.out.free3)))
  all_goals
    go_wp2_with fail
    refine bodyPost_ret (v := .agg #[.bool (Q.mk' (an != bn) X Z).neg, .slice x1 y1 z1, .slice x2 y2 z2]) (by simp [results, Try.results25, go_sem, m0, m1, m2]) rfl ?_
    have hz5 : w.heap.size + 3 ≤ w4.heap.size := Nat.le_trans hsz (Nat.le_trans hb3.size hb4.size)
    exact ⟨_, rfl, retR hB5 (by omega) ⟨_, _, rfl, r1, r2, r3.mono (by omega), r4.mono (by omega)⟩⟩

end Go.Proofs.Ythplbhgbgcfogaa
