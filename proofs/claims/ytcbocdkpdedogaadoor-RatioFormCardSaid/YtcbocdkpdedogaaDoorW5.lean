import Derived.Test.YtcbocdkpdedogaaDoorRT
import Derived.Test.YtcbocdkpdedogaaDoorR16
import Derived.Test.YtcbocdkpdedogaaDoorR7
import Derived.Test.YtcbocdkpdedogaaDoorR10b
namespace Go.Proofs.YtcbocdkpdedogaaDoor
open Go.RowKit Go.Proofs.Kit Go.Proofs.Nums

set_option maxRecDepth 100000 in
set_option maxHeartbeats 8000000 in
theorem walk_RatioForm {w : World} (v0 : Value) (neg : Bool) (a0 b0 : List Nat) (h0 : RatL w v0 neg a0 b0) :
    Calls Tryd.prog 11 #[v0] w fun e w' => e = .returned (.bool true) ∧ Below w.heap.size w w' := by
  obtain ⟨p1, l1, k1, p2, l2, k2, rfl⟩ := h0.shape
  have SH0 := fun w' (hb : Below w.heap.size w w') => gl_of (rshort_r (h0.keep hb) 3 (by omega) 3 rfl)
  obtain ⟨a, ha⟩ : ∃ a, a0.take 3 = a := ⟨_, rfl⟩
  obtain ⟨b, hb⟩ : ∃ b, b0.take 3 = b := ⟨_, rfl⟩
  have hla : a.length ≤ 3 := by rw [← ha]; simp only [List.length_take]; omega
  have hlb : b.length ≤ 3 := by rw [← hb]; simp only [List.length_take]; omega
  have hva : val (a0.take 3) < 4294967296 ^ 3 ∧ val (b0.take 3) < 4294967296 ^ 3 := by
    obtain ⟨_, _, _, g1, g2⟩ := h0
    exact ⟨lim_lt (g1.2.take 3) (by rw [ha]; exact hla), lim_lt (g2.2.take 3) (by rw [hb]; exact hlb)⟩
  rw [ha, hb] at SH0 hva
  have HVA := Lib.hid hva
  have SH : Hid (∀ w', Below w.heap.size w w' → Calls Tryd.prog 12 #[.agg #[.bool neg, .slice p1 l1 k1, .slice p2 l2 k2], .int .i64 3] w' (GivesL neg a b w')) := Lib.hid SH0
  have HLA := Lib.hid hla
  have HLB := Lib.hid hlb
  clear SH0 ha hb hla hlb h0 hva
  obtain ⟨q, hq⟩ : ∃ q : Q, q = ⟨neg, val a, val b⟩ := ⟨_, rfl⟩
  obtain ⟨⟨xn, xN, xD⟩, hx⟩ : ∃ x, q.norm = x := ⟨_, rfl⟩
  have HQ := Lib.hid hq
  have HX := Lib.hid hx
  have FR : Hid (∀ v w', RatL w' v neg a b → Calls Tryd.prog 13 #[v] w' (GivesR ⟨xn, xN, xD⟩ w')) := Lib.hid (fun v w' h => by
    have := gr_of (rfrom_r (h.at HLA.out HLB.out) (by omega))
    rw [← hq, hx] at this
    exact this)
  have hAT : Hid (∀ v w', RatL w' v neg a b → RatAt w' v q 3) := Lib.hid (fun v w' h => by rw [hq]; exact h.at HLA.out HLB.out)
  clear hq hx
  have BA := Lib.hid (Blk.new w #[.bool neg, .slice p1 l1 k1, .slice p2 l2 k2] 25)
  have hB := bal (Below.refl w.heap.size w) (.cells #[.bool neg, .slice p1 l1 k1, .slice p2 l2 k2] 25)
  obtain ⟨m0, m1, m2⟩ := BA.out.three
  have hL := norm_lt (q := q) (L := 3) (by rw [HQ.out]; exact HVA.out.1) (by rw [HQ.out]; exact HVA.out.2) (by omega)
  rw [HX.out] at hL
  obtain ⟨V, hV⟩ : ∃ V, eqR neg a b xn (limbs xN) (limbs xD) = V := ⟨_, rfl⟩
  have hV2 : validR neg a b = V := by
    rw [← hV]
    have e : Q.mk' neg (val a) (val b) = ⟨xn, xN, xD⟩ := by rw [← HX.out, HQ.out]; rfl
    unfold validR eqR
    rw [e]
  have MK : Hid (∀ p l k p' l' k' w', RatL w' (.agg #[.bool neg, .slice p l k, .slice p' l' k']) neg a b → Calls Tryd.prog 40 #[.bool neg, .slice p l k, .slice p' l' k'] w' (GivesN ⟨xn, xN, xD⟩ 3 w')) := Lib.hid (fun p l k p' l' k' w' h => by
    have g := h.at HLA.out HLB.out
    obtain ⟨a1, a2, e, g1, g2⟩ := g
    simp only [Value.agg.injEq, Array.mk.injEq, List.cons.injEq, and_true, true_and] at e
    obtain ⟨rfl, rfl⟩ := e
    have := gn_of (make_num (neg := neg) g1 g2 (by omega) (by omega))
    have e2 : Q.mk' neg (val a) (val b) = ⟨xn, xN, xD⟩ := by rw [← HX.out, HQ.out]; rfl
    rw [e2] at this
    exact this)
  have VA : Hid (∀ v w', RatL w' v neg a b → Calls Tryd.prog 41 #[v] w' fun e w'' => e = .returned (.bool V) ∧ Below w'.heap.size w' w'') := Lib.hid (fun v w' h => by
    have := valid_r (L := 3) h HLA.out HLB.out (by omega) (by omega)
    rw [hV2] at this; exact this)
  have TO : Hid (∀ v w', RAt w' v ⟨xn, xN, xD⟩ → Calls Tryd.prog 42 #[v] w' fun e w'' => ∃ v', e = .returned v' ∧ RatN w'' v' ⟨xn, xN, xD⟩ 3 ∧ Below w'.heap.size w' w'') := Lib.hid (fun v w' h => rto_r h (by omega) hL.1 hL.2)
  have EQ : Hid (∀ v v' w', RatL w' v neg a b → RatN w' v' ⟨xn, xN, xD⟩ 3 → Calls Tryd.prog 24 #[v, v'] w' fun e w'' => e = .returned (.bool V) ∧ Below w'.heap.size w' w'') := Lib.hid (fun v v' w' h h' => by
    have := req_r h h'.l (Nat.le_trans HLA.out (by omega)) (Nat.le_trans HLB.out (by omega)) (Nat.le_trans h'.lens.1 (by omega)) (Nat.le_trans h'.lens.2 (by omega))
    rw [hV] at this
    exact this)
  clear hL hV hV2 hAT
  go_enter Tryd.func11, Tryd.ntmps11
  go_wp2_with (first
    | (go_at_call 12; ((with_reducible refine (SH.out _ hB).mono ?_); rintro e w1 ⟨p3, l3, k3, p4, l4, k4, rfl, hs, hb1⟩; have hB1 := bel2' hB hb1; have BA1 := Lib.hid (BA.out.keep hb1); obtain ⟨c0, c1, c2⟩ := BA1.out.three; obtain ⟨d0, d1, d2⟩ := BA1.out.free3; have BS1 := Lib.hid (BA1.out.put_same (.bool neg) (.slice p3 l3 k3) (.slice p4 l4 k4)); have hS1 := below_set3 hB1 (Nat.le_refl _) (.bool neg) (.slice p3 l3 k3) (.slice p4 l4 k4); have hs1 := hs.put BA1.out.noLimb (.bool neg) (.slice p3 l3 k3) (.slice p4 l4 k4); obtain ⟨e0, e1, e2⟩ := BS1.out.three))
    | (go_at_call 13; ((with_reducible refine (FR.out _ _ hs1).mono ?_); rintro e w2 ⟨lo2, hi2, p5, l5, k5, p6, l6, k6, rfl, hx, hlo2, hhi2, hb2⟩; have hB2 := bal (bel2' hS1 hb2) (.cells #[.bool xn, .slice p5 l5 k5, .slice p6 l6 k6] 30); have BA2 := Lib.hid ((BS1.out.keep hb2).alloc (.cells #[.bool xn, .slice p5 l5 k5, .slice p6 l6 k6] 30)); have BX2 := Lib.hid (Blk.new w2 #[.bool xn, .slice p5 l5 k5, .slice p6 l6 k6] 30); have hs2 := (hs1.keep hb2).al (.cells #[.bool xn, .slice p5 l5 k5, .slice p6 l6 k6] 30); have hx2 := hx.al (.cells #[.bool xn, .slice p5 l5 k5, .slice p6 l6 k6] 30); obtain ⟨f0, f1, f2⟩ := BA2.out.three; obtain ⟨g0, g1, g2⟩ := BX2.out.three))
    )
  have TA := Lib.hid BA2.out.drew
  have TX := Lib.hid BX2.out.drew
  have hBE := hB2.drew
  have hsE := hs2.drew
  have hxE := hx2.drew
  clear f0 f1 f2 g0 g1 g2 e0 e1 e2 c0 c1 c2 d0 d1 d2 m0 m1 m2
  go_region_held3 (fun w' => w'.cell? ⟨w.heap.size, 0, none⟩ = some (.bool neg) ∧ w'.cell? ⟨w.heap.size, 1, none⟩ = some (.slice p3 l3 k3) ∧ w'.cell? ⟨w.heap.size, 2, none⟩ = some (.slice p4 l4 k4) ∧ w'.cell? ⟨w2.heap.size, 0, none⟩ = some (.bool xn) ∧ w'.cell? ⟨w2.heap.size, 1, none⟩ = some (.slice p5 l5 k5) ∧ w'.cell? ⟨w2.heap.size, 2, none⟩ = some (.slice p6 l6 k6))
    (first | exact cells6 TA.out TX.out | exact cells6 TA3.out TX3.out | exact cells6 TA4.out TX4.out | exact cells6 TA5.out TX5.out | exact cells6 TA6.out TX6.out | exact cells6 TA7.out TX7.out | exact cells6 TA8.out TX8.out)
    (first
      | (go_at_call 14; ((with_reducible refine (rawake_r _).mono ?_); rintro e w3 ⟨rfl, hb3⟩; have hB3 := bel2' hBE hb3; have TA3 := Lib.hid (TA.out.keep hb3); have TX3 := Lib.hid (TX.out.keep hb3); have hs3 := hsE.keep hb3; have hx3 := hxE.keep hb3))
      | (go_at_call 40; ((with_reducible refine (MK.out _ _ _ _ _ _ _ hs3).mono ?_); rintro e w4 ⟨p7, l7, k7, p8, l8, k8, rfl, hr, hb4⟩; have hB4 := bel2' hB3 hb4; have TA4 := Lib.hid (TA3.out.keep hb4); have TX4 := Lib.hid (TX3.out.keep hb4); have hs4 := hs3.keep hb4; have hx4 := hx3.keep hb4))
      | (go_at_call 15; ((with_reducible refine (ris_r hr hx4.at (by omega)).mono ?_); rintro e w5 ⟨rfl, hb5⟩; have hB5 := bel2' hB4 hb5; have TA5 := Lib.hid (TA4.out.keep hb5); have TX5 := Lib.hid (TX4.out.keep hb5); have hs5 := hs4.keep hb5; have hx5 := hx4.keep hb5))
      | (go_at_call 41; ((with_reducible refine (VA.out _ _ hs5).mono ?_); rintro e w6 ⟨rfl, hb6⟩; have hB6 := bel2' hB5 hb6; have TA6 := Lib.hid (TA5.out.keep hb6); have TX6 := Lib.hid (TX5.out.keep hb6); have hs6 := hs5.keep hb6; have hx6 := hx5.keep hb6))
      | (go_at_call 42; ((with_reducible refine (TO.out _ _ hx6.at).mono ?_); rintro e w7 ⟨v7, rfl, hv7, hb7⟩; have hB7 := bel2' hB6 hb7; have TA7 := Lib.hid (TA6.out.keep hb7); have TX7 := Lib.hid (TX6.out.keep hb7); have hs7 := hs6.keep hb7))
      | (go_at_call 24; ((with_reducible refine (EQ.out _ _ _ hs7 hv7).mono ?_); rintro e w8 ⟨rfl, hb8⟩; have hB8 := bel2' hB7 hb8; have TA8 := Lib.hid (TA7.out.keep hb8); have TX8 := Lib.hid (TX7.out.keep hb8))))
  all_goals
    go_wp2_with fail
    go_ret
    exact ⟨rfl, hB8⟩

end Go.Proofs.YtcbocdkpdedogaaDoor
