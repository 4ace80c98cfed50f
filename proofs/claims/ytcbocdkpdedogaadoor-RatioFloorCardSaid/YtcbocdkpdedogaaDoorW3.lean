import Derived.Test.YtcbocdkpdedogaaDoorRT
import Derived.Test.YtcbocdkpdedogaaDoorR16
import Derived.Test.YtcbocdkpdedogaaDoorR7
import Derived.Test.YtcbocdkpdedogaaDoorR10b
namespace Go.Proofs.YtcbocdkpdedogaaDoor
open Go.RowKit Go.Proofs.Kit Go.Proofs.Nums

theorem RIn.bits {w : World} {t : Bool} {vn vd : Value} {q : Q} {lo hi : Nat} (h : RIn w (.agg #[.bool t, vn, vd]) q lo hi) : BitAt w vn (bitsN q.n) ∧ BitAt w vd (bitsN q.d) := by
  obtain ⟨a1, a2, e, h1, h2⟩ := h
  simp only [Value.agg.injEq, Array.mk.injEq, List.cons.injEq, and_true, Value.bool.injEq] at e
  obtain ⟨_, rfl, rfl⟩ := e
  exact ⟨h1.1, h2.1⟩

set_option maxRecDepth 100000 in
set_option maxHeartbeats 8000000 in
theorem walk_RatioFloor {w : World} (v0 : Value) (neg : Bool) (a0 b0 : List Nat) (h0 : RatL w v0 neg a0 b0) :
    Calls Tryd.prog 7 #[v0] w fun e w' => e = .returned (.bool true) ∧ Below w.heap.size w w' := by
  obtain ⟨p1, l1, k1, p2, l2, k2, rfl⟩ := h0.shape
  have SH0 := fun w' (hb : Below w.heap.size w w') => gl_of (rshort_r (h0.keep hb) 3 (by omega) 3 rfl)
  obtain ⟨a, ha⟩ : ∃ a, a0.take 3 = a := ⟨_, rfl⟩
  obtain ⟨b, hb⟩ : ∃ b, b0.take 3 = b := ⟨_, rfl⟩
  have hla : a.length ≤ 3 := by rw [← ha]; simp only [List.length_take]; omega
  have hlb : b.length ≤ 3 := by rw [← hb]; simp only [List.length_take]; omega
  have hva : val (a0.take 3) < 4294967296 ^ 3 ∧ val (b0.take 3) < 4294967296 ^ 3 := by
    obtain ⟨_, _, _, g1, g2⟩ := h0
    exact ⟨lim_lt (g1.2.take 3) (by rw [ha]; exact hla), lim_lt (g2.2.take 3) (by rw [hb]; exact hlb)⟩
  rw [ha, hb] at SH0 hva
  have HVA := Lib.hid hva
  have SH : Hid (∀ w', Below w.heap.size w w' → Calls Tryd.prog 12 #[.agg #[.bool neg, .slice p1 l1 k1, .slice p2 l2 k2], .int .i64 3] w' (GivesL neg a b w')) := Lib.hid SH0
  have HLA := Lib.hid hla
  have HLB := Lib.hid hlb
  clear SH0 ha hb hla hlb h0 hva
  obtain ⟨q, hq⟩ : ∃ q : Q, q = ⟨neg, val a, val b⟩ := ⟨_, rfl⟩
  obtain ⟨⟨xn, xN, xD⟩, hx⟩ : ∃ x, q.norm = x := ⟨_, rfl⟩
  have HQ := Lib.hid hq
  have HX := Lib.hid hx
  have FR : Hid (∀ v w', RatL w' v neg a b → Calls Tryd.prog 13 #[v] w' (GivesR ⟨xn, xN, xD⟩ w')) := Lib.hid (fun v w' h => by
    have := gr_of (rfrom_r (h.at HLA.out HLB.out) (by omega))
    rw [← hq, hx] at this
    exact this)
  have hAT : Hid (∀ v w', RatL w' v neg a b → RatAt w' v q 3) := Lib.hid (fun v w' h => by rw [hq]; exact h.at HLA.out HLB.out)
  clear hq hx
  have BA := Lib.hid (Blk.new w #[.bool neg, .slice p1 l1 k1, .slice p2 l2 k2] 25)
  have hB := bal (Below.refl w.heap.size w) (.cells #[.bool neg, .slice p1 l1 k1, .slice p2 l2 k2] 25)
  obtain ⟨m0, m1, m2⟩ := BA.out.three
  have FL : Hid (∀ v w', RatAt w' v q 3 → Calls Tryd.prog 29 #[v] w' fun e w'' => ∃ v', e = .returned (.tuple #[v', .bool (!xn)]) ∧ Nrm w'' v' (if xn then 0 else xN / xD) 3 ∧ Below w'.heap.size w' w'') := Lib.hid (fun v w' h => by
    have := floor_r h (by omega) (by omega)
    rw [HX.out] at this
    exact this)
  have hD : Hid (0 < xD) := Lib.hid (by have := Q.norm_d q; rw [HX.out] at this; exact this)
  have hSZ : Hid ((bitsN xN).length ≤ 40000 ∧ (bitsN xD).length ≤ 40000) := Lib.hid (by
    have := sz_norm (q := q) (L := 3) (by rw [HQ.out]; exact HVA.out.1) (by rw [HQ.out]; exact HVA.out.2) (by omega) (by omega)
    rw [HX.out] at this
    exact ⟨Nat.le_trans this.1 (by omega), Nat.le_trans this.2 (by omega)⟩)
  cases xn
  · have FL2 : Hid (∀ v w', RatAt w' v q 3 → Calls Tryd.prog 29 #[v] w' fun e w'' => ∃ v', e = .returned (.tuple #[v', .bool true]) ∧ Nrm w'' v' (xN / xD) 3 ∧ Below w'.heap.size w' w'') := FL
    clear FL
    go_enter Tryd.func7, Tryd.ntmps7
    go_wp2_with (first
      | (go_at_call 12; ((with_reducible refine (SH.out _ hB).mono ?_); rintro e w1 ⟨p3, l3, k3, p4, l4, k4, rfl, hs, hb1⟩; have hB1 := bel2' hB hb1; have BA1 := Lib.hid (BA.out.keep hb1); obtain ⟨c0, c1, c2⟩ := BA1.out.three; obtain ⟨d0, d1, d2⟩ := BA1.out.free3; have BS1 := Lib.hid (BA1.out.put_same (.bool neg) (.slice p3 l3 k3) (.slice p4 l4 k4)); have hS1 := below_set3 hB1 (Nat.le_refl _) (.bool neg) (.slice p3 l3 k3) (.slice p4 l4 k4); have hs1 := hs.put BA1.out.noLimb (.bool neg) (.slice p3 l3 k3) (.slice p4 l4 k4); obtain ⟨e0, e1, e2⟩ := BS1.out.three))
      | (go_at_call 13; ((with_reducible refine (FR.out _ _ hs1).mono ?_); rintro e w2 ⟨lo2, hi2, p5, l5, k5, p6, l6, k6, rfl, hx, hlo2, hhi2, hb2⟩; have hB2 := bal (bel2' hS1 hb2) (.cells #[.bool false, .slice p5 l5 k5, .slice p6 l6 k6] 30); have BA2 := Lib.hid ((BS1.out.keep hb2).alloc (.cells #[.bool false, .slice p5 l5 k5, .slice p6 l6 k6] 30)); have BX2 := Lib.hid (Blk.new w2 #[.bool false, .slice p5 l5 k5, .slice p6 l6 k6] 30); have hs2 := (hs1.keep hb2).al (.cells #[.bool false, .slice p5 l5 k5, .slice p6 l6 k6] 30); have hx2 := hx.al (.cells #[.bool false, .slice p5 l5 k5, .slice p6 l6 k6] 30); obtain ⟨f0, f1, f2⟩ := BA2.out.three; obtain ⟨g0, g1, g2⟩ := BX2.out.three))
      | (go_at_call 29; ((with_reducible refine (FL2.out _ _ (hAT.out _ _ hs2)).mono ?_); rintro e w3 ⟨v3, rfl, hn3, hb3⟩; have hB3 := bel2' hB2 hb3; have BX3 := Lib.hid (BX2.out.keep hb3); have hx3 := hx2.keep hb3; obtain ⟨i0, i1, i2⟩ := BX3.out.three))
      | (go_at_call 30; ((with_reducible refine (rdiv_n _ _ xN xD _ hx3.bits.1 hx3.bits.2 hSZ.out.1 hSZ.out.2 hD.out).mono ?_); rintro e w4 ⟨vq, vr, rfl, hq4, hr4, hb4⟩; have hB4 := bel2' hB3 hb4; have hn4 := hn3.keep hb4))
      | (go_at_call 14; ((with_reducible refine (rawake_r _).mono ?_); rintro e w5 ⟨rfl, hb5⟩; have hB5 := bel2' hB4 hb5; have hn5 := hn4.keep hb5; have hn5l := Lib.hid hn5.2; have hq5 := hq4.keep hb5))
      | (go_at_call 32; ((with_reducible refine (to_n (L := 3) hq5 (by omega) hn5l.out).mono ?_); rintro e w6 ⟨v6, rfl, hn6, hb6⟩; have hB6 := bel2' hB5 hb6; have hn56 := hn5.keep hb6))
      | (go_at_call 31; ((with_reducible refine (eq_true hn56 hn6 (by omega)).mono ?_); rintro e w7 ⟨rfl, hb7⟩; have hB7 := bel2' hB6 hb7))
      )
    go_ret
    exact ⟨rfl, hB7⟩
  · have FL2 : Hid (∀ v w', RatAt w' v q 3 → Calls Tryd.prog 29 #[v] w' fun e w'' => ∃ p k, e = .returned (.tuple #[.slice p 0 k, .bool false]) ∧ Below w'.heap.size w' w'') := Lib.hid (fun v w' h => (FL.out v w' h).mono (by
      rintro e w'' ⟨v', rfl, g1, g2⟩
      rw [if_pos rfl] at g1
      obtain ⟨p, k, g3⟩ := g1.1.shape
      subst g3
      exact ⟨p, k, rfl, g2⟩))
    clear FL
    go_enter Tryd.func7, Tryd.ntmps7
    go_wp2_with (first
      | (go_at_call 12; ((with_reducible refine (SH.out _ hB).mono ?_); rintro e w1 ⟨p3, l3, k3, p4, l4, k4, rfl, hs, hb1⟩; have hB1 := bel2' hB hb1; have BA1 := Lib.hid (BA.out.keep hb1); obtain ⟨c0, c1, c2⟩ := BA1.out.three; obtain ⟨d0, d1, d2⟩ := BA1.out.free3; have BS1 := Lib.hid (BA1.out.put_same (.bool neg) (.slice p3 l3 k3) (.slice p4 l4 k4)); have hS1 := below_set3 hB1 (Nat.le_refl _) (.bool neg) (.slice p3 l3 k3) (.slice p4 l4 k4); have hs1 := hs.put BA1.out.noLimb (.bool neg) (.slice p3 l3 k3) (.slice p4 l4 k4); obtain ⟨e0, e1, e2⟩ := BS1.out.three))
      | (go_at_call 13; ((with_reducible refine (FR.out _ _ hs1).mono ?_); rintro e w2 ⟨lo2, hi2, p5, l5, k5, p6, l6, k6, rfl, hx, hlo2, hhi2, hb2⟩; have hB2 := bal (bel2' hS1 hb2) (.cells #[.bool true, .slice p5 l5 k5, .slice p6 l6 k6] 30); have BA2 := Lib.hid ((BS1.out.keep hb2).alloc (.cells #[.bool true, .slice p5 l5 k5, .slice p6 l6 k6] 30)); have BX2 := Lib.hid (Blk.new w2 #[.bool true, .slice p5 l5 k5, .slice p6 l6 k6] 30); have hs2 := (hs1.keep hb2).al (.cells #[.bool true, .slice p5 l5 k5, .slice p6 l6 k6] 30); have hx2 := hx.al (.cells #[.bool true, .slice p5 l5 k5, .slice p6 l6 k6] 30); obtain ⟨f0, f1, f2⟩ := BA2.out.three; obtain ⟨g0, g1, g2⟩ := BX2.out.three))
      | (go_at_call 29; ((with_reducible refine (FL2.out _ _ (hAT.out _ _ hs2)).mono ?_); rintro e w3 ⟨p7, k7, rfl, hb3⟩; have hB3 := bel2' hB2 hb3; have BX3 := Lib.hid (BX2.out.keep hb3); obtain ⟨i0, i1, i2⟩ := BX3.out.three))
      | (go_at_call 14; ((with_reducible refine (rawake_r _).mono ?_); rintro e w5 ⟨rfl, hb5⟩; have hB5 := bel2' hB3 hb5))
      )
    go_ret
    exact ⟨rfl, hB5⟩

end Go.Proofs.YtcbocdkpdedogaaDoor
