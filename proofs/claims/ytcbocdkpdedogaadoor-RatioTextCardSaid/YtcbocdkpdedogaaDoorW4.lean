import Derived.Test.YtcbocdkpdedogaaDoorRT
import Derived.Test.YtcbocdkpdedogaaDoorR21
import Derived.Test.YtcbocdkpdedogaaDoorGH
import Derived.Test.YtcbocdkpdedogaaDoorR16
import Derived.Test.YtcbocdkpdedogaaDoorR7
import Derived.Test.YtcbocdkpdedogaaDoorR10b
namespace Go.Proofs.YtcbocdkpdedogaaDoor
open Go.RowKit Go.Proofs.Kit Go.Proofs.Nums

theorem pow10_le_bits {n : Nat} (h : n < 4294967296 ^ 2) : (decB n).length ≤ 20 := by
  have h1 : n < 10 ^ 20 := Nat.lt_trans h (by decide)
  unfold decB
  split
  · decide
  · rw [List.length_reverse, List.length_map]
    exact dec_len_le n 20 h1
theorem ratB_len2 {q : Q} (h1 : q.n < 4294967296 ^ 2) (h2 : q.d < 4294967296 ^ 2) : (ratB q).length ≤ 42 := by
  have g1 := pow10_le_bits h1
  have g2 := pow10_le_bits h2
  unfold ratB
  cases q.neg <;> by_cases hd : q.d = 1 <;> simp [hd] <;> omega

set_option maxRecDepth 100000 in
set_option maxHeartbeats 8000000 in
theorem walk_RatioText {w : World} (v0 : Value) (neg : Bool) (a0 b0 : List Nat) (h0 : RatL w v0 neg a0 b0) :
    Calls Tryd.prog 4 #[v0] w fun e w' => e = .returned (.bool true) ∧ Below w.heap.size w w' := by
  obtain ⟨p1, l1, k1, p2, l2, k2, rfl⟩ := h0.shape
  have SH0 := fun w' (hb : Below w.heap.size w w') => gl_of (rshort_r (h0.keep hb) 2 (by omega) 2 rfl)
  obtain ⟨a, ha⟩ : ∃ a, a0.take 2 = a := ⟨_, rfl⟩
  obtain ⟨b, hb⟩ : ∃ b, b0.take 2 = b := ⟨_, rfl⟩
  have hla : a.length ≤ 2 := by rw [← ha]; simp only [List.length_take]; omega
  have hlb : b.length ≤ 2 := by rw [← hb]; simp only [List.length_take]; omega
  have hva : val (a0.take 2) < 4294967296 ^ 2 ∧ val (b0.take 2) < 4294967296 ^ 2 := by
    obtain ⟨_, _, _, g1, g2⟩ := h0
    exact ⟨lim_lt (g1.2.take 2) (by rw [ha]; exact hla), lim_lt (g2.2.take 2) (by rw [hb]; exact hlb)⟩
  rw [ha, hb] at SH0 hva
  have HVA := Lib.hid hva
  have SH : Hid (∀ w', Below w.heap.size w w' → Calls Tryd.prog 12 #[.agg #[.bool neg, .slice p1 l1 k1, .slice p2 l2 k2], .int .i64 2] w' (GivesL neg a b w')) := Lib.hid SH0
  have HLA := Lib.hid hla
  have HLB := Lib.hid hlb
  clear SH0 ha hb hla hlb h0 hva
  obtain ⟨q, hq⟩ : ∃ q : Q, q = ⟨neg, val a, val b⟩ := ⟨_, rfl⟩
  obtain ⟨⟨xn, xN, xD⟩, hx⟩ : ∃ x, q.norm = x := ⟨_, rfl⟩
  have HQ := Lib.hid hq
  have HX := Lib.hid hx
  have FR : Hid (∀ v w', RatL w' v neg a b → Calls Tryd.prog 13 #[v] w' (GivesR ⟨xn, xN, xD⟩ w')) := Lib.hid (fun v w' h => by
    have := gr_of (rfrom_r (h.at HLA.out HLB.out) (by omega))
    rw [← hq, hx] at this
    exact this)
  have hAT : Hid (∀ v w', RatL w' v neg a b → RatAt w' v q 2) := Lib.hid (fun v w' h => by rw [hq]; exact h.at HLA.out HLB.out)
  clear hq hx
  have BA := Lib.hid (Blk.new w #[.bool neg, .slice p1 l1 k1, .slice p2 l2 k2] 25)
  have hB := bal (Below.refl w.heap.size w) (.cells #[.bool neg, .slice p1 l1 k1, .slice p2 l2 k2] 25)
  obtain ⟨m0, m1, m2⟩ := BA.out.three
  have hL := norm_lt (q := q) (L := 2) (by rw [HQ.out]; exact HVA.out.1) (by rw [HQ.out]; exact HVA.out.2) (by omega)
  have hSZ0 := sz_norm (q := q) (L := 2) (by rw [HQ.out]; exact HVA.out.1) (by rw [HQ.out]; exact HVA.out.2) (by omega) (by omega)
  have hNF := Q.norm_nf q
  rw [HX.out] at hL hSZ0 hNF
  obtain ⟨t, ht⟩ : ∃ t : ByteArray, (⟨(ratB ⟨xn, xN, xD⟩).toArray⟩ : ByteArray) = t := ⟨_, rfl⟩
  have hlt : t.size ≤ 42 := by rw [← ht, Lib.size_eq]; exact ratB_len2 hL.1 hL.2
  have htl : t.data.toList = ratB ⟨xn, xN, xD⟩ := by rw [← ht]
  have TX : Hid (∀ v w', RatAt w' v q 2 → Calls Tryd.prog 20 #[v] w' fun e w'' => e = .returned (.string t) ∧ Below w'.heap.size w' w'') := Lib.hid (fun v w' h => by
    have := text_r h (by omega) (by omega)
    rw [HX.out, ht] at this
    exact this)
  have RX : Hid (∀ v w', RAt w' v ⟨xn, xN, xD⟩ → Calls Tryd.prog 22 #[v] w' fun e w'' => e = .returned (.string t) ∧ Below w'.heap.size w' w'') := Lib.hid (fun v w' h => by
    have := rtext_r h ⟨Nat.le_trans hSZ0.1 (by omega), Nat.le_trans hSZ0.2 (by omega)⟩
    rw [ht] at this
    exact this)
  have PA : Hid (∀ w', Calls Tryd.prog 21 #[.string t] w' fun e w'' => ∃ p l k p' l' k', e = .returned (.tuple #[.agg #[.bool xn, .slice p l k, .slice p' l' k'], .bool true]) ∧ RatN w'' (.agg #[.bool xn, .slice p l k, .slice p' l' k']) ⟨xn, xN, xD⟩ 16 ∧ Below w'.heap.size w' w'') := Lib.hid (fun w' => (parse_r t w' (by omega)).mono (by
    rintro e w'' ⟨g1, g2⟩
    rw [htl, if_pos (okP_rat hNF), ratP_rat hNF] at g1
    obtain ⟨v, rfl, hv⟩ := g1
    have hv2 := hv
    obtain ⟨p1, l1, k1, p2, l2, k2, rfl, _, _⟩ := hv.shape
    exact ⟨_, _, _, _, _, _, rfl, hv2, g2⟩))
  clear hL hSZ0 hNF ht hlt htl
  go_enter Tryd.func4, Tryd.ntmps4
  go_wp2_with (first
    | (go_at_call 12; ((with_reducible refine (SH.out _ hB).mono ?_); rintro e w1 ⟨p3, l3, k3, p4, l4, k4, rfl, hs, hb1⟩; have hB1 := bel2' hB hb1; have BA1 := Lib.hid (BA.out.keep hb1); obtain ⟨c0, c1, c2⟩ := BA1.out.three; obtain ⟨d0, d1, d2⟩ := BA1.out.free3; have BS1 := Lib.hid (BA1.out.put_same (.bool neg) (.slice p3 l3 k3) (.slice p4 l4 k4)); have hS1 := below_set3 hB1 (Nat.le_refl _) (.bool neg) (.slice p3 l3 k3) (.slice p4 l4 k4); have hs1 := hs.put BA1.out.noLimb (.bool neg) (.slice p3 l3 k3) (.slice p4 l4 k4); obtain ⟨e0, e1, e2⟩ := BS1.out.three))
    | (go_at_call 13; ((with_reducible refine (FR.out _ _ hs1).mono ?_); rintro e w2 ⟨lo2, hi2, p5, l5, k5, p6, l6, k6, rfl, hx, hlo2, hhi2, hb2⟩; have hB2 := bal (bel2' hS1 hb2) (.cells #[.bool xn, .slice p5 l5 k5, .slice p6 l6 k6] 30); have BA2 := Lib.hid ((BS1.out.keep hb2).alloc (.cells #[.bool xn, .slice p5 l5 k5, .slice p6 l6 k6] 30)); have BX2 := Lib.hid (Blk.new w2 #[.bool xn, .slice p5 l5 k5, .slice p6 l6 k6] 30); have hs2 := (hs1.keep hb2).al (.cells #[.bool xn, .slice p5 l5 k5, .slice p6 l6 k6] 30); have hx2 := hx.al (.cells #[.bool xn, .slice p5 l5 k5, .slice p6 l6 k6] 30); obtain ⟨f0, f1, f2⟩ := BA2.out.three; obtain ⟨g0, g1, g2⟩ := BX2.out.three))
    | (go_at_call 20; ((with_reducible refine (TX.out _ _ (hAT.out _ _ hs2)).mono ?_); rintro e w3 ⟨rfl, hb3⟩; have hB3 := bel2' hB2 hb3; have BX3 := Lib.hid (BX2.out.keep hb3); have hx3 := hx2.keep hb3))
    | (go_at_call 21; ((with_reducible refine (PA.out _).mono ?_); rintro e w4 ⟨p7, l7, k7, p8, l8, k8, rfl, hr, hb4⟩; have hB4 := bal (bel2' hB3 hb4) (.cells #[.bool xn, .slice p7 l7 k7, .slice p8 l8 k8] 25); have BX4 := Lib.hid ((BX3.out.keep hb4).alloc (.cells #[.bool xn, .slice p7 l7 k7, .slice p8 l8 k8] 25)); have BR4 := Lib.hid (Blk.new w4 #[.bool xn, .slice p7 l7 k7, .slice p8 l8 k8] 25); have hx4 := (hx3.keep hb4).al (.cells #[.bool xn, .slice p7 l7 k7, .slice p8 l8 k8] 25); have hr4 := hr.al (.cells #[.bool xn, .slice p7 l7 k7, .slice p8 l8 k8] 25)))
    | (go_at_call 14; ((with_reducible refine (rawake_r _).mono ?_); rintro e w5 ⟨rfl, hb5⟩; have hB5 := bel2' hB4 hb5; have BX5 := Lib.hid (BX4.out.keep hb5); have BR5 := Lib.hid (BR4.out.keep hb5); have hx5 := hx4.keep hb5; have hr5 := hr4.keep hb5; obtain ⟨i0, i1, i2⟩ := BX5.out.three))
    | (go_at_call 22; ((with_reducible refine (RX.out _ _ hx5.at).mono ?_); rintro e w6 ⟨rfl, hb6⟩; have hB6 := bel2' hB5 hb6; have BX6 := Lib.hid (BX5.out.keep hb6); have BR6 := Lib.hid (BR5.out.keep hb6); have hx6 := hx5.keep hb6; have hr6 := hr5.keep hb6; obtain ⟨j0, j1, j2⟩ := BX6.out.three; obtain ⟨n0, n1, n2⟩ := BR6.out.three))
    | (go_at_call 15; ((with_reducible refine (ris_r hr6 hx6.at (by omega)).mono ?_); rintro e w7 ⟨rfl, hb7⟩; have hB7 := bel2' hB6 hb7))
    )
  go_ret
  exact ⟨rfl, hB7⟩

end Go.Proofs.YtcbocdkpdedogaaDoor
