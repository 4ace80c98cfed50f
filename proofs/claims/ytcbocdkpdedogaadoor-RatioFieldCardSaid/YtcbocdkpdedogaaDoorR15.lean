import Derived.Test.YtcbocdkpdedogaaDoorM4
import Derived.Test.YtcbocdkpdedogaaDoorMR
import Derived.Test.YtcbocdkpdedogaaDoorR8
import Derived.Test.YtcbocdkpdedogaaDoorR13a
import Derived.Deep.RegionHeld3
namespace Go.Proofs.YtcbocdkpdedogaaDoor
open Go.RowKit Go.Proofs.Kit Go.Proofs.Nums

theorem Blk.of_pair {w0 : World} {H : Nat} {a b : Q} {L : Nat} {w : World} {p1 : Option Addr} {l1 k1 : Nat} {p2 : Option Addr} {l2 k2 : Nat} {p3 : Option Addr} {l3 k3 : Nat} {p4 : Option Addr} {l4 k4 : Nat}
    (h : Pair w0 H a b L w p1 l1 k1 p2 l2 k2 p3 l3 k3 p4 l4 k4) : Blk (H + 1 + 1) #[.bool false, .slice none 0 0, .slice none 0 0] w := ⟨h.lt, h.res, h.free⟩

set_option maxRecDepth 100000 in
set_option maxHeartbeats 8000000 in
theorem div_r {va vb : Value} {a b : Q} {L : Nat} {w : World} (ha : RatAt w va a L) (hb : RatAt w vb b L) (hL : L ≤ 100000) (hL2 : 2 ≤ L) :
    Calls Tryd.prog 33 #[va, vb] w fun e w' => ∃ v', e = .returned (.tuple #[v', .bool (decide (b.norm.n ≠ 0))]) ∧ RatN w' v' (Q.div a b) (L + L) ∧ Below w.heap.size w w' := by
  obtain ⟨p1, l1, k1, p2, l2, k2, rfl, hn, hd⟩ := ha.shape
  obtain ⟨p3, l3, k3, p4, l4, k4, rfl, hm, hc⟩ := hb.shape
  obtain ⟨qa, hqa⟩ : ∃ qa, a.norm = qa := ⟨_, rfl⟩
  obtain ⟨qb, hqb⟩ : ∃ qb, b.norm = qb := ⟨_, rfl⟩
  have NA : Hid (∀ w', Below w.heap.size w w' → Calls Tryd.prog 46 #[.agg #[.bool a.neg, .slice p1 l1 k1, .slice p2 l2 k2]] w' fun e w'' => ∃ v', e = .returned v' ∧ RatN w'' v' qa L ∧ Below w'.heap.size w' w'') := Lib.hid (fun w' h => by rw [← hqa]; exact norm_r (ha.keep h) (by omega) hL2)
  have NB : Hid (∀ w', Below w.heap.size w w' → Calls Tryd.prog 46 #[.agg #[.bool b.neg, .slice p3 l3 k3, .slice p4 l4 k4]] w' fun e w'' => ∃ x z x2 y2 z2, e = .returned (.agg #[.bool qb.neg, .slice x (limbs qb.n).length z, .slice x2 y2 z2]) ∧ Nrm w'' (.slice x (limbs qb.n).length z) qb.n L ∧ Nrm w'' (.slice x2 y2 z2) qb.d L ∧ Below w'.heap.size w' w'') := Lib.hid (fun w' h => by
    have := norm_r (hb.keep h) (by omega) hL2
    rw [hqb] at this
    refine this.mono ?_
    rintro e w'' ⟨v', rfl, ⟨vn, vd, rfl, h1, h2⟩, h3⟩
    obtain ⟨x, z, rfl⟩ := h1.1.shape
    obtain ⟨x2, y2, z2, rfl⟩ := h2.shape
    exact ⟨_, _, _, _, _, rfl, h1, h2, h3⟩)
  have HQ : Hid (Q.div a b = if qb.n = 0 then ⟨false, 0, 0⟩ else Q.mk' (qa.neg != qb.neg) (qa.n * qb.d) (qa.d * qb.n)) := Lib.hid (by unfold Q.div Q.divR; rw [hqa, hqb])
  have HOK : Hid (decide (b.norm.n ≠ 0) = decide (qb.n ≠ 0)) := Lib.hid (by rw [hqb])
  obtain ⟨R, hR⟩ : ∃ R, Q.div a b = R := ⟨_, rfl⟩
  obtain ⟨ok, hok⟩ : ∃ ok, decide (b.norm.n ≠ 0) = ok := ⟨_, rfl⟩
  rw [hR, hok]
  have HR : Hid (R = if qb.n = 0 then ⟨false, 0, 0⟩ else Q.mk' (qa.neg != qb.neg) (qa.n * qb.d) (qa.d * qb.n)) := Lib.hid (by rw [← hR, HQ.out])
  have HOK2 : Hid (ok = decide (qb.n ≠ 0)) := Lib.hid (by rw [← hok, HOK.out])
  clear hn hd hm hc ha hb hqa hqb HQ HOK hR hok
  have NM : Hid (∀ neg va vb w, neg = (qa.neg != qb.neg) → Num w va (qa.n * qb.d) (L + L) → Num w vb (qa.d * qb.n) (L + L) → Calls Tryd.prog 40 #[.bool neg, va, vb] w fun e w' => ∃ v, e = .returned v ∧ RatN w' v (Q.mk' (qa.neg != qb.neg) (qa.n * qb.d) (qa.d * qb.n)) (L + L) ∧ Below w.heap.size w w') := Lib.hid (fun neg va vb w hneg h h' => by subst hneg; exact make_num h h' (by omega) (by omega))
  have hcase : Hid ((qb.n = 0) ∨ (¬ qb.n = 0 ∧ (((limbs qb.n).length : Int) == 0) = false)) := Lib.hid (by
    rcases Nat.eq_zero_or_pos qb.n with h0 | h0
    · exact .inl h0
    · exact .inr ⟨by omega, by rw [beq_eq_false_iff_ne]; have := limbs_len_pos h0; omega⟩)
  obtain ⟨an, han⟩ : ∃ t, a.neg = t := ⟨_, rfl⟩
  obtain ⟨bn, hbn⟩ : ∃ t, b.neg = t := ⟨_, rfl⟩
  rw [han] at NA
  rw [hbn] at NB
  rw [han, hbn]
  have b0 := (((Blk.new w #[.bool an, .slice p1 l1 k1, .slice p2 l2 k2] 25).alloc (.cells #[.bool bn, .slice p3 l3 k3, .slice p4 l4 k4] 25)).alloc (.cells #[.bool false, .slice none 0 0, .slice none 0 0] 25)).drew
  have b1 := ((Blk.new (w.alloc (.cells #[.bool an, .slice p1 l1 k1, .slice p2 l2 k2] 25)) #[.bool bn, .slice p3 l3 k3, .slice p4 l4 k4] 25).alloc (.cells #[.bool false, .slice none 0 0, .slice none 0 0] 25)).drew
  rw [World.size_alloc] at b1
  have hBd : Below w.heap.size w (((w.alloc (.cells #[.bool an, .slice p1 l1 k1, .slice p2 l2 k2] 25)).alloc (.cells #[.bool bn, .slice p3 l3 k3, .slice p4 l4 k4] 25)).alloc (.cells #[.bool false, .slice none 0 0, .slice none 0 0] 25)).drew := ((((Below.refl _ _).alloc (Nat.le_refl _) _).alloc (by simp) _).alloc (by simp; omega) _).drew
  go_enter Tryd.func33, Tryd.ntmps33
  go_wp2_with fail
  revert b0 b1 hBd
  generalize hW : ((w.alloc (.cells #[.bool an, .slice p1 l1 k1, .slice p2 l2 k2] 25)).alloc (.cells #[.bool bn, .slice p3 l3 k3, .slice p4 l4 k4] 25)).alloc (.cells #[.bool false, .slice none 0 0, .slice none 0 0] 25) = W
  intro b0 b1 hBd
  have HW : Hid (W = ((w.alloc (.cells #[.bool (⟨an, 0, 0⟩ : Q).neg, .slice p1 l1 k1, .slice p2 l2 k2] 25)).alloc (.cells #[.bool (⟨bn, 0, 0⟩ : Q).neg, .slice p3 l3 k3, .slice p4 l4 k4] 25)).alloc (.cells #[.bool false, .slice none 0 0, .slice none 0 0] 25)) := Lib.hid hW.symm
  have B0 := Lib.hid b0
  have B1 := Lib.hid b1
  obtain ⟨c0, c1, c2⟩ := b0.three
  obtain ⟨d0, d1, d2⟩ := b1.three
  clear hW b0 b1
  go_region_with (first
      | (go_at_call 46; ((with_reducible refine (NA.out _ hBd).mono ?_); rintro e w4 ⟨v4, rfl, hv4, hb4⟩; obtain ⟨a1, b1, e1, a2, b2, e2, rfl, hn4, hd4⟩ := hv4.shape; have B04 := Lib.hid (B0.out.keep hb4); have B14 := Lib.hid (B1.out.keep hb4); obtain ⟨g0, g1, g2⟩ := B04.out.three; obtain ⟨g3, g4, g5⟩ := B14.out.three; have hB4 := bel2' hBd hb4))
      | (go_at_call 46; ((with_reducible refine (NB.out _ hB4).mono ?_); rintro e w5 ⟨a3, e3, a4, b4, e4, rfl, hn5, hd5, hb5⟩; have B05 := Lib.hid (B04.out.keep hb5); have B15 := Lib.hid (B14.out.keep hb5); obtain ⟨k0, k1', k2'⟩ := B05.out.three; obtain ⟨k3', k4', k5⟩ := B15.out.three; obtain ⟨f0, f1, f2⟩ := B05.out.free3; obtain ⟨f3, f4, f5⟩ := B15.out.free3; have PR := Lib.hid (Pair.normed (a := ⟨an, 0, 0⟩) (b := ⟨bn, 0, 0⟩) (W := W) HW.out rfl (hb4.trans (hb5.mono hb4.size)) (hn4.keep hb5) (hd4.keep hb5) hn5 hd5))))
  all_goals
    have PR1 := PR.out
    unfold set3 at PR1
    revert PR1
    generalize (((((w5.setCell ⟨w.heap.size, 0, none⟩ (.bool qa.neg)).setCell ⟨w.heap.size, 1, none⟩ (.slice a1 b1 e1)).setCell ⟨w.heap.size, 2, none⟩ (.slice a2 b2 e2)).setCell ⟨w.heap.size + 1, 0, none⟩ (.bool qb.neg)).setCell ⟨w.heap.size + 1, 1, none⟩ (.slice a3 (limbs qb.n).length e3)).setCell ⟨w.heap.size + 1, 2, none⟩ (.slice a4 b4 e4) = W6
    intro PR1
    have PA := Lib.hid PR1
    have PD := Lib.hid (PR1.keep (Below.refl _ _).drew)
    clear PR1 PR c0 c1 c2 d0 d1 d2 g0 g1 g2 g3 g4 g5 k0 k1' k2' k3' k4' k5 f0 f1 f2 f3 f4 f5 B0 B1 B04 B14 B05 B15 HW NA NB hB4 hb4 hb5 hn4 hd4 hn5 hd5 hv4 hBd
    obtain ⟨i0, i1, i2, i3, i4, i5⟩ := PA.out.six
    obtain ⟨r0, r1, r2⟩ := (Blk.of_pair PA.out).three
    obtain ⟨s0, s1, s2⟩ := (Blk.of_pair PA.out).free3
    rcases hcase.out with h0 | ⟨h0, h1⟩
    · have H0 := Lib.hid h0
      have hl : (limbs qb.n).length = 0 := by rw [h0]; rfl
      rw [hl] at i4
      clear h0
      go_wp2_with fail
      refine bodyPost_ret (v := .tuple #[.agg #[.bool false, .slice none 0 0, .slice none 0 0], .bool false]) (by simp [results, Tryd.results33, go_sem, r0, r1, r2]) rfl ?_
      have hR : R = ⟨false, 0, 0⟩ := by rw [HR.out, if_pos H0.out]
      have hok : ok = false := by rw [HOK2.out]; simp [H0.out]
      rw [hR, hok]
      have hfin := PA.out.ret (q := ⟨false, 0, 0⟩) (M := L + L) (nrm_nil' _ _) (nrm_nil' _ _) _ rfl
      exact ⟨_, rfl, hfin.1, hfin.2⟩
    · have H0 := Lib.hid h0
      clear h0
      go_wp2_with fail
      go_region_held3 (fun w' => w'.cell? ⟨w.heap.size, 0, none⟩ = some (.bool qa.neg) ∧ w'.cell? ⟨w.heap.size, 1, none⟩ = some (.slice a1 b1 e1) ∧ w'.cell? ⟨w.heap.size, 2, none⟩ = some (.slice a2 b2 e2) ∧ w'.cell? ⟨w.heap.size + 1, 0, none⟩ = some (.bool qb.neg) ∧ w'.cell? ⟨w.heap.size + 1, 1, none⟩ = some (.slice a3 (limbs qb.n).length e3) ∧ w'.cell? ⟨w.heap.size + 1, 2, none⟩ = some (.slice a4 b4 e4))
        (first | exact PD.out.six | exact P7.out.six | exact P8.out.six | exact P11.out.six | exact six_set3 P11.out.six)
        (first
        | (go_at_call 48; ((with_reducible refine (mul_num PD.out.n1.num PD.out.n4.num (by omega) (by omega)).mono ?_); rintro e w7 ⟨v7, rfl, hv7, hb7⟩; have P7 := Lib.hid (PD.out.keep hb7)))
        | (go_at_call 48; ((with_reducible refine (mul_num P7.out.n2.num P7.out.n3.num (by omega) (by omega)).mono ?_); rintro e w8 ⟨v8, rfl, hv8, hb8⟩; have P8 := Lib.hid (P7.out.keep hb8); have hv7b := hv7.keep hb8))
        | (go_at_call 40; ((with_reducible refine (NM.out _ _ _ _ (by cases qa.neg <;> cases qb.neg <;> first | rfl | decide | simp) hv7b.num hv8.num).mono ?_); rintro e w11 ⟨v11, rfl, hv11, hb11⟩; have P11 := Lib.hid (P8.out.keep hb11); obtain ⟨x1, y1, z1, x2, y2, z2, rfl, hvn, hvd⟩ := hv11.shape; obtain ⟨u0, u1, u2⟩ := (Blk.of_pair P11.out).three; obtain ⟨t0, t1, t2⟩ := (Blk.of_pair P11.out).free3)))
      all_goals
        go_wp2_with fail
        refine bodyPost_ret (v := .tuple #[.agg #[.bool (Q.mk' (qa.neg != qb.neg) (qa.n * qb.d) (qa.d * qb.n)).neg, .slice x1 y1 z1, .slice x2 y2 z2], .bool true]) (by simp [results, Tryd.results33, go_sem, u0, u1, u2]) rfl ?_
        have hR : R = Q.mk' (qa.neg != qb.neg) (qa.n * qb.d) (qa.d * qb.n) := by rw [HR.out, if_neg H0.out]
        have hok : ok = true := by rw [HOK2.out]; simp [H0.out]
        rw [hR, hok]
        have hfin := P11.out.ret hvn hvd _ rfl
        exact ⟨_, rfl, hfin.1, hfin.2⟩

end Go.Proofs.YtcbocdkpdedogaaDoor
