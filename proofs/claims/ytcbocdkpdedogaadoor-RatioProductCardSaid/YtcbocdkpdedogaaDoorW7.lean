import Derived.Test.YtcbocdkpdedogaaDoorRU
import Derived.Test.YtcbocdkpdedogaaDoorR10b
import Derived.Test.YtcbocdkpdedogaaDoorR7
import Derived.Deep.DeepCutAuto
import Derived.Deep.CutBlock
import Derived.Deep.RegionHeld3
import Derived.Test.YtcbocdkpdedogaaDoorR13
import Derived.Test.YtcbocdkpdedogaaDoorR12
import Derived.Test.YtcbocdkpdedogaaDoorR12b
import Derived.Test.YtcbocdkpdedogaaDoorR15
import Derived.Test.YtcbocdkpdedogaaDoorR9
import Derived.Test.YtcbocdkpdedogaaDoorR19
import Derived.Test.YtcbocdkpdedogaaDoorRF
namespace Go.Proofs.YtcbocdkpdedogaaDoor
open Go.RowKit Go.Proofs.Kit Go.Proofs.Nums

theorem all15b {a0 a1 a2 a3 a4 a5 a6 a7 a8 a9 a10 a11 b0 b1 b2 : Prop} (h : a0 ∧ a1 ∧ a2 ∧ a3 ∧ a4 ∧ a5 ∧ a6 ∧ a7 ∧ a8 ∧ a9 ∧ a10 ∧ a11) (g : b0 ∧ b1 ∧ b2) : a0 ∧ a1 ∧ a2 ∧ a3 ∧ a4 ∧ a5 ∧ a6 ∧ a7 ∧ a8 ∧ a9 ∧ a10 ∧ a11 ∧ b0 ∧ b1 ∧ b2 := by
  obtain ⟨h0, h1, h2, h3, h4, h5, h6, h7, h8, h9, h10, h11⟩ := h
  exact ⟨h0, h1, h2, h3, h4, h5, h6, h7, h8, h9, h10, h11, g⟩
theorem RIn.bits7 {w : World} {t : Bool} {vn vd : Value} {q : Q} {lo hi : Nat} (h : RIn w (.agg #[.bool t, vn, vd]) q lo hi) : BitAt w vn (bitsN q.n) ∧ BitAt w vd (bitsN q.d) := by
  obtain ⟨a1, a2, e, h1, h2⟩ := h
  simp only [Value.agg.injEq, Array.mk.injEq, List.cons.injEq, and_true, Value.bool.injEq] at e
  obtain ⟨_, rfl, rfl⟩ := e
  exact ⟨h1.1, h2.1⟩

set_option maxRecDepth 100000 in
set_option maxHeartbeats 16000000 in
theorem walk_RatioProduct {w : World} (v0 : Value) (n0 : Bool) (a0 b0 : List Nat) (h0 : RatL w v0 n0 a0 b0) (v1 : Value) (n1 : Bool) (c0 d0 : List Nat) (h1 : RatL w v1 n1 c0 d0) :
    Calls Tryd.prog 8 #[v0, v1] w fun e w' => e = .returned (.bool true) ∧ Below w.heap.size w w' := by
  obtain ⟨p1, l1, k1, p2, l2, k2, rfl⟩ := h0.shape
  obtain ⟨p3, l3, k3, p4, l4, k4, rfl⟩ := h1.shape
  have SA0 := fun w' (hb : Below w.heap.size w w') => gl_of (rshort_r (h0.keep hb) 2 (by omega) 2 rfl)
  have SB0 := fun w' (hb : Below w.heap.size w w') => gl_of (rshort_r (h1.keep hb) 2 (by omega) 2 rfl)
  obtain ⟨a, ha⟩ : ∃ a, a0.take 2 = a := ⟨_, rfl⟩
  obtain ⟨b, hb⟩ : ∃ b, b0.take 2 = b := ⟨_, rfl⟩
  obtain ⟨c, hc⟩ : ∃ c, c0.take 2 = c := ⟨_, rfl⟩
  obtain ⟨d, hd⟩ : ∃ d, d0.take 2 = d := ⟨_, rfl⟩
  have hla : a.length ≤ 2 := by rw [← ha]; simp only [List.length_take]; omega
  have hlb : b.length ≤ 2 := by rw [← hb]; simp only [List.length_take]; omega
  have hlc : c.length ≤ 2 := by rw [← hc]; simp only [List.length_take]; omega
  have hld : d.length ≤ 2 := by rw [← hd]; simp only [List.length_take]; omega
  have hva : (val (a0.take 2) < 4294967296 ^ 2 ∧ val (b0.take 2) < 4294967296 ^ 2) ∧ (val (c0.take 2) < 4294967296 ^ 2 ∧ val (d0.take 2) < 4294967296 ^ 2) := by
    obtain ⟨_, _, _, g1, g2⟩ := h0
    obtain ⟨_, _, _, g3, g4⟩ := h1
    exact ⟨⟨lim_lt (g1.2.take 2) (by rw [ha]; exact hla), lim_lt (g2.2.take 2) (by rw [hb]; exact hlb)⟩, ⟨lim_lt (g3.2.take 2) (by rw [hc]; exact hlc), lim_lt (g4.2.take 2) (by rw [hd]; exact hld)⟩⟩
  rw [ha, hb] at SA0
  rw [hc, hd] at SB0
  rw [ha, hb, hc, hd] at hva
  have SA : Hid (∀ w', Below w.heap.size w w' → Calls Tryd.prog 12 #[.agg #[.bool n0, .slice p1 l1 k1, .slice p2 l2 k2], .int .i64 2] w' (GivesL n0 a b w')) := Lib.hid SA0
  have SB : Hid (∀ w', Below w.heap.size w w' → Calls Tryd.prog 12 #[.agg #[.bool n1, .slice p3 l3 k3, .slice p4 l4 k4], .int .i64 2] w' (GivesL n1 c d w')) := Lib.hid SB0
  obtain ⟨qa, hqa⟩ : ∃ q : Q, (⟨n0, val a, val b⟩ : Q) = q := ⟨_, rfl⟩
  obtain ⟨qb, hqb⟩ : ∃ q : Q, (⟨n1, val c, val d⟩ : Q) = q := ⟨_, rfl⟩
  obtain ⟨⟨xn, xN, xD⟩, hx⟩ : ∃ x, qa.norm = x := ⟨_, rfl⟩
  obtain ⟨⟨yn, yN, yD⟩, hy⟩ : ∃ y, qb.norm = y := ⟨_, rfl⟩
  have HA : Hid (∀ v w', RatL w' v n0 a b → RatAt w' v qa 2) := Lib.hid (fun v w' h => by rw [← hqa]; exact h.at hla hlb)
  have HB : Hid (∀ v w', RatL w' v n1 c d → RatAt w' v qb 2) := Lib.hid (fun v w' h => by rw [← hqb]; exact h.at hlc hld)
  have FA : Hid (∀ v w', RatL w' v n0 a b → Calls Tryd.prog 13 #[v] w' (GivesR ⟨xn, xN, xD⟩ w')) := Lib.hid (fun v w' h => by
    have := gr_of (rfrom_r (HA.out v w' h) (by omega))
    rw [hx] at this
    exact this)
  have FB : Hid (∀ v w', RatL w' v n1 c d → Calls Tryd.prog 13 #[v] w' (GivesR ⟨yn, yN, yD⟩ w')) := Lib.hid (fun v w' h => by
    have := gr_of (rfrom_r (HB.out v w' h) (by omega))
    rw [hy] at this
    exact this)
  have SZX : Hid ((⟨xn, xN, xD⟩ : Q).Sz 10000) := Lib.hid (by
    have := sz_norm (q := qa) (L := 2) (by rw [← hqa]; exact hva.1.1) (by rw [← hqa]; exact hva.1.2) (by omega) (by omega)
    rw [hx] at this; exact this)
  have SZY : Hid ((⟨yn, yN, yD⟩ : Q).Sz 10000) := Lib.hid (by
    have := sz_norm (q := qb) (L := 2) (by rw [← hqb]; exact hva.2.1) (by rw [← hqb]; exact hva.2.2) (by omega) (by omega)
    rw [hy] at this; exact this)
  have HX := Lib.hid hx
  have HY := Lib.hid hy
  obtain ⟨⟨mn, mN, mD⟩, hmq⟩ : ∃ s, Q.mul qa qb = s := ⟨_, rfl⟩
  obtain ⟨⟨dn, dN, dD⟩, hdq⟩ : ∃ s, Q.div qa qb = s := ⟨_, rfl⟩
  have eM : Q.mul ⟨xn, xN, xD⟩ ⟨yn, yN, yD⟩ = ⟨mn, mN, mD⟩ := by rw [← hx, ← hy, ← Q.mul_norm]; exact hmq
  have HZ : Hid (yN = 0 → (⟨dn, dN, dD⟩ : Q) = ⟨false, 0, 0⟩ ∧ (⟨mn, mN, mD⟩ : Q) = ⟨false, 0, 1⟩) := Lib.hid (fun h0 => by
    refine ⟨?_, ?_⟩
    · rw [← hdq]; unfold Q.div; rw [hy, if_pos h0]
    · rw [← eM, h0]; exact Q.mk'_zero (.inl (by simp)))
  have HP : Hid (yN ≠ 0 → Q.divR ⟨xn, xN, xD⟩ ⟨yn, yN, yD⟩ = ⟨dn, dN, dD⟩) := Lib.hid (fun h0 => by
    rw [← hdq]; unfold Q.div; rw [hy, hx, if_neg h0])
  have DV0 : ∀ va vb w', RatL w' va n0 a b → RatL w' vb n1 c d → Calls Tryd.prog 33 #[va, vb] w' fun e w'' => ∃ p l k p' l' k', e = .returned (.tuple #[.agg #[.bool dn, .slice p l k, .slice p' l' k'], .bool (decide (yN ≠ 0))]) ∧ RatN w'' (.agg #[.bool dn, .slice p l k, .slice p' l' k']) ⟨dn, dN, dD⟩ 4 ∧ Below w'.heap.size w' w'' := fun va vb w' h h' => by
    have := div_r (HA.out _ _ h) (HB.out _ _ h') (by omega) (by omega)
    rw [hdq, hy] at this
    refine this.mono ?_
    rintro e w'' ⟨v, rfl, hv, hb⟩
    have hv2 := hv
    obtain ⟨p1, l1, k1, p2, l2, k2, rfl, _, _⟩ := hv.shape
    exact ⟨_, _, _, _, _, _, rfl, hv2, hb⟩
  have MU : Hid (∀ va vb w', RatL w' va n0 a b → RatL w' vb n1 c d → Calls Tryd.prog 34 #[va, vb] w' (GivesN ⟨mn, mN, mD⟩ 4 w')) := Lib.hid (fun va vb w' h h' => by
    have := gn_of (mul_r (HA.out _ _ h) (HB.out _ _ h') (by omega) (by omega))
    rw [hmq] at this
    exact this)
  have RM : Hid (∀ va vb w', RAt w' va ⟨xn, xN, xD⟩ → RAt w' vb ⟨yn, yN, yD⟩ → Calls Tryd.prog 35 #[va, vb] w' (GivesR ⟨mn, mN, mD⟩ w')) := Lib.hid (fun va vb w' h h' => by
    have := gr_of (rmul_r h h' SZX.out SZY.out)
    rw [eM] at this
    exact this)
  have DV := Lib.hid DV0
  clear hmq hdq eM DV0
  clear SA0 SB0 ha hb hc hd hla hlb hlc hld hva h0 h1 hqa hqb hx hy
  have bA := (Blk.new w #[.bool n0, .slice p1 l1 k1, .slice p2 l2 k2] 25).alloc (.cells #[.bool n1, .slice p3 l3 k3, .slice p4 l4 k4] 25)
  have bB := Blk.new (w.alloc (.cells #[.bool n0, .slice p1 l1 k1, .slice p2 l2 k2] 25)) #[.bool n1, .slice p3 l3 k3, .slice p4 l4 k4] 25
  rw [World.size_alloc] at bB
  have hBW : Below w.heap.size w ((w.alloc (.cells #[.bool n0, .slice p1 l1 k1, .slice p2 l2 k2] 25)).alloc (.cells #[.bool n1, .slice p3 l3 k3, .slice p4 l4 k4] 25)) := bal (bal (Below.refl w.heap.size w) _) _
  go_enter Tryd.func8, Tryd.ntmps8
  go_upto_region 1 with fail
  revert bA bB hBW
  generalize (w.alloc (.cells #[.bool n0, .slice p1 l1 k1, .slice p2 l2 k2] 25)).alloc (.cells #[.bool n1, .slice p3 l3 k3, .slice p4 l4 k4] 25) = W
  intro bA bB hBW
  go_cut [4] (fun s wx => s = .bool false ∧ Hid (St1 w n0 a b n1 c d wx))
  case first =>
    have A0 := Lib.hid bA.drew
    have B0 := Lib.hid bB.drew
    have hB0 := hBW.drew
    have C0 := cells6 A0.out B0.out
    obtain ⟨c0, c1, c2, c3, c4, c5⟩ := C0
    clear bA bB hBW
    go_region_with (first
      | (go_at_call 12; ((with_reducible refine (SA.out _ hB0).mono ?_); rintro e w1 ⟨q1, r1, s1, q2, r2, s2, rfl, hv1, hb1⟩; have hB1 := bel2' hB0 hb1; have A1 := Lib.hid (A0.out.keep hb1); have B1 := Lib.hid (B0.out.keep hb1); obtain ⟨e0, e1, e2, e3, e4, e5⟩ := cells6 A1.out B1.out))
      | (go_at_call 12; ((with_reducible refine (SB.out _ hB1).mono ?_); rintro e w2 ⟨q3, r3, s3, q4, r4, s4, rfl, hv2, hb2⟩; have hB2 := bel2' hB1 hb2; have A2 := Lib.hid (A1.out.keep hb2); have B2 := Lib.hid (B1.out.keep hb2); have hv12 := hv1.keep hb2; obtain ⟨f0, f1, f2, f3, f4, f5⟩ := cells6 A2.out B2.out; obtain ⟨g0, g1, g2⟩ := A2.out.free3; obtain ⟨g3, g4, g5⟩ := B2.out.free3)))
    all_goals
      go_wp2_with fail
      go_meet
      exact ⟨rfl, Lib.hid (St1.of A2.out B2.out hv12 hv2 hB2)⟩
  case rest =>
    obtain ⟨rfl, hst⟩ := hcut
    obtain ⟨p1, l1, k1, p2, l2, k2, p3, l3, k3, p4, l4, k4, hP⟩ := hst.out
    have P0 := Lib.hid hP
    clear hst hP bA bB hBW SA SB
    go_upto_region 2 with fail
    go_cut [5, 6] (fun sx sy wx => ∃ X Y, sx = .pointer (some ⟨X, 0, none⟩) ∧ sy = .pointer (some ⟨Y, 0, none⟩) ∧ Hid (St2 w n0 a b n1 c d ⟨xn, xN, xD⟩ ⟨yn, yN, yD⟩ X Y wx))
    case first =>
      have hz0 := P0.out.B.1
      go_region_held3 (fun w' => w'.cell? ⟨w.heap.size, 0, none⟩ = some (.bool n0) ∧ w'.cell? ⟨w.heap.size, 1, none⟩ = some (.slice p1 l1 k1) ∧ w'.cell? ⟨w.heap.size, 2, none⟩ = some (.slice p2 l2 k2) ∧ w'.cell? ⟨w.heap.size + 1, 0, none⟩ = some (.bool n1) ∧ w'.cell? ⟨w.heap.size + 1, 1, none⟩ = some (.slice p3 l3 k3) ∧ w'.cell? ⟨w.heap.size + 1, 2, none⟩ = some (.slice p4 l4 k4))
        ((first | with_reducible exact P0.out.drew.cells | with_reducible exact (P0.out.alloc _).drew.cells | with_reducible exact ((P0.out.alloc _).alloc _).drew.cells | with_reducible exact P1.out.cells | with_reducible exact (P1.out.alloc _).cells | with_reducible exact ((P1.out.alloc _).alloc _).cells | with_reducible exact Q2.out.cells | with_reducible exact (Q2.out.alloc _).cells | with_reducible exact ((Q2.out.alloc _).alloc _).cells | ((with_reducible refine six_put _ _ _ ?_ (by omega)); first | with_reducible exact Q2.out.cells | with_reducible exact (Q2.out.alloc _).cells | with_reducible exact ((Q2.out.alloc _).alloc _).cells) | ((with_reducible refine six_put _ _ _ ?_ (by omega)); (with_reducible refine six_put _ _ _ ?_ (by omega)); first | with_reducible exact Q2.out.cells | with_reducible exact (Q2.out.alloc _).cells | with_reducible exact ((Q2.out.alloc _).alloc _).cells)))
        (first
          | (go_at_call 13; ((with_reducible refine (FA.out _ _ (by with_reducible first | exact P0.out.drew.va | exact (P0.out.alloc _).drew.va | exact ((P0.out.alloc _).alloc _).drew.va)).mono ?_); rintro e w1 ⟨lo1, hi1, p5, l5, k5, p6, l6, k6, rfl, hx1, hlo1, hhi1, hb1⟩; have P1 : Hid (P2 w #[.bool n0, .slice p1 l1 k1, .slice p2 l2 k2] #[.bool n1, .slice p3 l3 k3, .slice p4 l4 k4] (.agg #[.bool n0, .slice p1 l1 k1, .slice p2 l2 k2]) (.agg #[.bool n1, .slice p3 l3 k3, .slice p4 l4 k4]) n0 a b n1 c d w1) := Lib.hid (by with_reducible first | exact P0.out.drew.keep hb1 | exact (P0.out.alloc _).drew.keep hb1 | exact ((P0.out.alloc _).alloc _).drew.keep hb1); have hs1 := hb1.size; (try simp at hs1 hlo1); (try have X1a : Hid (Blk wc.heap.size #[.bool false, .slice none 0 0, .slice none 0 0] w1) := Lib.hid (by with_reducible first | exact (Blk.new' _ _ _ rfl).drew.keep hb1 | exact ((Blk.new' _ _ _ rfl).alloc _).drew.keep hb1)); (try have X1b : Hid (Blk (wc.heap.size + 1) #[.bool false, .slice none 0 0, .slice none 0 0] w1) := Lib.hid ((Blk.new' _ _ _ (World.size_alloc _ _).symm).drew.keep hb1)); (try have n02 : wc.heap.size ≠ w1.heap.size := by omega); (try have n20 : w1.heap.size ≠ wc.heap.size := by omega)))
          | (go_at_call 13; ((with_reducible refine (FB.out _ _ (by with_reducible first | exact P1.out.vb | exact (P1.out.alloc _).vb | exact ((P1.out.alloc _).alloc _).vb)).mono ?_); rintro e w2 ⟨lo2, hi2, p7, l7, k7, p8, l8, k8, rfl, hy2, hlo2, hhi2, hb2⟩; have Q2 : Hid (P2 w #[.bool n0, .slice p1 l1 k1, .slice p2 l2 k2] #[.bool n1, .slice p3 l3 k3, .slice p4 l4 k4] (.agg #[.bool n0, .slice p1 l1 k1, .slice p2 l2 k2]) (.agg #[.bool n1, .slice p3 l3 k3, .slice p4 l4 k4]) n0 a b n1 c d w2) := Lib.hid (by with_reducible first | exact P1.out.keep hb2 | exact (P1.out.alloc _).keep hb2 | exact ((P1.out.alloc _).alloc _).keep hb2); have hs2 := hb2.size; (try simp at hs2 hlo2); (try have X2a : Hid (Blk wc.heap.size #[.bool false, .slice none 0 0, .slice none 0 0] w2) := Lib.hid (by with_reducible first | exact X1a.out.keep hb2 | exact (X1a.out.alloc _).keep hb2)); (try have X2b : Hid (Blk (wc.heap.size + 1) #[.bool false, .slice none 0 0, .slice none 0 0] w2) := Lib.hid (X1b.out.keep hb2)); (try have X2c : Hid (Blk w1.heap.size #[.bool false, .slice none 0 0, .slice none 0 0] w2) := Lib.hid (by with_reducible first | exact (Blk.new' _ _ _ rfl).keep hb2 | exact ((Blk.new' _ _ _ rfl).alloc _).keep hb2)); (try have X2d : Hid (Blk (w1.heap.size + 1) #[.bool false, .slice none 0 0, .slice none 0 0] w2) := Lib.hid ((Blk.new' _ _ _ (World.size_alloc _ _).symm).keep hb2)); (try (obtain ⟨ua0, ua1, ua2⟩ := X2a.out.three; obtain ⟨ta0, ta1, ta2⟩ := X2a.out.free3; obtain ⟨uaa0, uaa1, uaa2⟩ := (X2a.out.alloc (.cells #[.bool false, .slice none 0 0, .slice none 0 0] 30)).three; obtain ⟨taa0, taa1, taa2⟩ := (X2a.out.alloc (.cells #[.bool false, .slice none 0 0, .slice none 0 0] 30)).free3; obtain ⟨uba0, uba1, uba2⟩ := (X2a.out.alloc (.cells #[.bool xn, .slice p5 l5 k5, .slice p6 l6 k6] 30)).three; obtain ⟨tba0, tba1, tba2⟩ := (X2a.out.alloc (.cells #[.bool xn, .slice p5 l5 k5, .slice p6 l6 k6] 30)).free3)); (try (obtain ⟨ub0, ub1, ub2⟩ := X2b.out.three; obtain ⟨tb0, tb1, tb2⟩ := X2b.out.free3; obtain ⟨uab0, uab1, uab2⟩ := (X2b.out.alloc (.cells #[.bool false, .slice none 0 0, .slice none 0 0] 30)).three; obtain ⟨tab0, tab1, tab2⟩ := (X2b.out.alloc (.cells #[.bool false, .slice none 0 0, .slice none 0 0] 30)).free3; obtain ⟨ubb0, ubb1, ubb2⟩ := (X2b.out.alloc (.cells #[.bool xn, .slice p5 l5 k5, .slice p6 l6 k6] 30)).three; obtain ⟨tbb0, tbb1, tbb2⟩ := (X2b.out.alloc (.cells #[.bool xn, .slice p5 l5 k5, .slice p6 l6 k6] 30)).free3)); (try (obtain ⟨uc0, uc1, uc2⟩ := X2c.out.three; obtain ⟨tc0, tc1, tc2⟩ := X2c.out.free3; obtain ⟨uac0, uac1, uac2⟩ := (X2c.out.alloc (.cells #[.bool false, .slice none 0 0, .slice none 0 0] 30)).three; obtain ⟨tac0, tac1, tac2⟩ := (X2c.out.alloc (.cells #[.bool false, .slice none 0 0, .slice none 0 0] 30)).free3; obtain ⟨ubc0, ubc1, ubc2⟩ := (X2c.out.alloc (.cells #[.bool xn, .slice p5 l5 k5, .slice p6 l6 k6] 30)).three; obtain ⟨tbc0, tbc1, tbc2⟩ := (X2c.out.alloc (.cells #[.bool xn, .slice p5 l5 k5, .slice p6 l6 k6] 30)).free3)); (try (obtain ⟨ud0, ud1, ud2⟩ := X2d.out.three; obtain ⟨td0, td1, td2⟩ := X2d.out.free3; obtain ⟨uad0, uad1, uad2⟩ := (X2d.out.alloc (.cells #[.bool false, .slice none 0 0, .slice none 0 0] 30)).three; obtain ⟨tad0, tad1, tad2⟩ := (X2d.out.alloc (.cells #[.bool false, .slice none 0 0, .slice none 0 0] 30)).free3; obtain ⟨ubd0, ubd1, ubd2⟩ := (X2d.out.alloc (.cells #[.bool xn, .slice p5 l5 k5, .slice p6 l6 k6] 30)).three; obtain ⟨tbd0, tbd1, tbd2⟩ := (X2d.out.alloc (.cells #[.bool xn, .slice p5 l5 k5, .slice p6 l6 k6] 30)).free3)); (try have n24 : w1.heap.size ≠ w2.heap.size := by omega); (try have n42 : w2.heap.size ≠ w1.heap.size := by omega); (try have n04 : wc.heap.size ≠ w2.heap.size := by omega); (try have n40 : w2.heap.size ≠ wc.heap.size := by omega))))
      all_goals
        go_wp2_with fail
        go_meet
        refine ⟨_, _, rfl, rfl, Lib.hid ?_⟩
        have hxk : RIn w2 (.agg #[.bool xn, .slice p5 l5 k5, .slice p6 l6 k6]) ⟨xn, xN, xD⟩ lo1 hi1 := (by first | exact hx1.keep hb2 | exact (hx1.al _).keep hb2 | exact ((hx1.al _).al _).keep hb2)
        have hzw := Q2.out.B.1
        first
          | ((with_reducible refine St2.of1 Q2.out hxk hy2 ?_ ?_); all_goals omega)
          | ((with_reducible refine St2.of2 Q2.out hxk hy2 ?_ ?_); all_goals omega)
          | ((with_reducible refine St2.of4 Q2.out ?_ hxk hy2 ?_ ?_ ?_); (first | with_reducible exact X2a.out | with_reducible exact X2b.out | with_reducible exact X2c.out | with_reducible exact X2d.out); all_goals omega)
          | ((with_reducible refine St2.of Q2.out ?_ ?_ hxk hy2 ?_ ?_ ?_ ?_ ?_ ?_ ?_); (first | with_reducible exact X2a.out | with_reducible exact X2b.out | with_reducible exact X2c.out | with_reducible exact X2d.out); (first | with_reducible exact X2a.out | with_reducible exact X2b.out | with_reducible exact X2c.out | with_reducible exact X2d.out); all_goals omega)
          | ((with_reducible refine St2.of (Q2.out.alloc _) ?_ (Blk.new' _ _ _ rfl) (hxk.al _) (hy2.al _) ?_ ?_ ?_ ?_ ?_ ?_ ?_); (first | with_reducible exact (X2a.out.alloc _) | with_reducible exact (X2b.out.alloc _) | with_reducible exact (X2c.out.alloc _) | with_reducible exact (X2d.out.alloc _)); all_goals (first | omega | (simp only [World.size_alloc]; omega)))
    case rest =>
      obtain ⟨X, Y, rfl, rfl, hst⟩ := hcut
      obtain ⟨p1, l1, k1, p2, l2, k2, p3, l3, k3, p4, l4, k4, p5, l5, k5, p6, l6, k6, p7, l7, k7, p8, l8, k8, hT⟩ := hst.out
      have T0 := Lib.hid hT
      clear hst hT P0 FA FB
      have hl7 : l7 = (bitsN yN).length := by
        obtain ⟨_, k, e⟩ := T0.out.vy.bits7.1.shape
        simp only [Value.slice.injEq] at e
        exact e.2.1
      obtain ⟨f0, f1, f2, f3, f4, f5, f6, f7, f8, f9, f10, f11⟩ := T0.out.cells
      rcases Nat.eq_zero_or_pos yN with h0 | h0
      · have e0 := HZ.out h0
        obtain ⟨e1, e2⟩ := e0
        obtain ⟨rfl, rfl, rfl⟩ := Q.mk.inj e1
        obtain ⟨rfl, rfl, rfl⟩ := Q.mk.inj e2
        clear e1 e2 HZ HP
        obtain rfl : l7 = 0 := by rw [hl7, h0]; rfl
        have DW0 := DV.out
        rw [show decide (yN ≠ 0) = false by simp [h0]] at DW0
        have DW := Lib.hid DW0
        clear DW0 DV h0 hl7
        have EQ : Hid (∀ v w', RatN w' v ⟨false, 0, 0⟩ 4 → Calls Tryd.prog 24 #[v, .agg #[.bool false, .slice none 0 0, .slice none 0 0]] w' fun e w'' => e = .returned (.bool true) ∧ Below w'.heap.size w' w'') := Lib.hid (fun v w' h => by
          have h' : RatL w' (.agg #[.bool false, .slice none 0 0, .slice none 0 0]) false [] [] := ⟨_, _, rfl, NatAt.nil w', NatAt.nil w'⟩
          have := req_r h.l h' (Nat.le_trans h.lens.1 (by omega)) (Nat.le_trans h.lens.2 (by omega)) (by simp) (by simp)
          have e : eqR false (limbs 0) (limbs 0) false [] [] = true := by
            have : limbs 0 = [] := rfl
            rw [this]
            exact eqR_self _ _ _
          rw [e] at this
          exact this)
        have OZ : Hid (∀ w', Calls Tryd.prog 25 #[.int .i64 0] w' (GivesR ⟨false, 0, 1⟩ w')) := Lib.hid (fun w' => gr_of (rof_r (z := 0) (by omega) (by omega)))
        go_wp2_with (first
          | (go_at_call 33; ((with_reducible refine (DW.out _ _ _ T0.out.P.va T0.out.P.vb).mono ?_); rintro e w1 ⟨q1, r1, s1, q2, r2, s2, rfl, hd1, hb1⟩; have T1 := Lib.hid ((T0.out.keep hb1).alloc (.cells #[.bool false, .slice q1 r1 s1, .slice q2 r2 s2] 25)); have BD1 := Lib.hid (Blk.new w1 #[.bool false, .slice q1 r1 s1, .slice q2 r2 s2] 25); have hd2 := hd1.al (.cells #[.bool false, .slice q1 r1 s1, .slice q2 r2 s2] 25); obtain ⟨g0, g1, g2, g3, g4, g5, g6, g7, g8, g9, g10, g11⟩ := T1.out.cells; obtain ⟨i0, i1, i2⟩ := BD1.out.three))
          | (go_at_call 14; ((with_reducible refine (rawake_r _).mono ?_); rintro e w2 ⟨rfl, hb2⟩; have T2 := Lib.hid (T1.out.keep hb2); have BD2 := Lib.hid (BD1.out.keep hb2); have hd3 := hd2.keep hb2; obtain ⟨h0, h1, h2, h3, h4, h5, h6, h7, h8, h9, h10, h11⟩ := T2.out.cells; obtain ⟨j0, j1, j2⟩ := BD2.out.three))
          | (go_at_call 24; ((with_reducible refine (EQ.out _ _ hd3).mono ?_); rintro e w3 ⟨rfl, hb3⟩; have T3 := Lib.hid (T2.out.keep hb3); obtain ⟨k0, k1, k2, k3, k4, k5, k6, k7, k8, k9, k10, k11⟩ := T3.out.cells))
          | (go_at_call 34; ((with_reducible refine (MU.out _ _ _ T3.out.P.va T3.out.P.vb).mono ?_); rintro e w4 ⟨q3, r3, s3, q4, r4, s4, rfl, hv4, hb4⟩; have T4 := Lib.hid (T3.out.keep hb4)))
          | (go_at_call 25; ((with_reducible refine (OZ.out _).mono ?_); rintro e w5 ⟨lo5, hi5, q5, r5, s5, q6, r6, s6, rfl, hx5, hlo5, hhi5, hb5⟩; have T5 := Lib.hid (T4.out.keep hb5); have hv5 := hv4.keep hb5))
          | (go_at_call 15; ((with_reducible refine (ris_r hv5 hx5.at (by omega)).mono ?_); rintro e w6 ⟨rfl, hb6⟩; have T6 := Lib.hid (T5.out.keep hb6))))
        go_ret
        exact ⟨rfl, T6.out.P.below⟩
      · have hy0 : yN ≠ 0 := by omega
        have e1 := HP.out hy0
        have DW0 := DV.out
        rw [show decide (yN ≠ 0) = true by simp [hy0]] at DW0
        have DW := Lib.hid DW0
        have RV : Hid (∀ va vb w', RAt w' va ⟨xn, xN, xD⟩ → RAt w' vb ⟨yn, yN, yD⟩ → Calls Tryd.prog 26 #[va, vb] w' (GivesR ⟨dn, dN, dD⟩ w')) := Lib.hid (fun va vb w' h h' => by
          have := gr_of (rdiv_r h h' SZX.out SZY.out)
          rw [e1] at this
          exact this)
        have hl8 : ((l7 : Int) == 0) = false := by
          rw [hl7]
          have : 0 < (bitsN yN).length := List.length_pos_iff.2 fun e => hy0 (bits_eq_nil.1 e)
          exact beq_eq_false_iff_ne.2 (by omega)
        clear DW0 DV h0 hl7 hy0 e1 HZ HP
        go_wp2_with (first
          | (go_at_call 33; ((with_reducible refine (DW.out _ _ _ T0.out.P.va T0.out.P.vb).mono ?_); rintro e w1 ⟨q1, r1, s1, q2, r2, s2, rfl, hd1, hb1⟩; have T1 := Lib.hid ((T0.out.keep hb1).alloc (.cells #[.bool dn, .slice q1 r1 s1, .slice q2 r2 s2] 25)); have BD1 := Lib.hid (Blk.new w1 #[.bool dn, .slice q1 r1 s1, .slice q2 r2 s2] 25); have hd2 := hd1.al (.cells #[.bool dn, .slice q1 r1 s1, .slice q2 r2 s2] 25); obtain ⟨g0, g1, g2, g3, g4, g5, g6, g7, g8, g9, g10, g11⟩ := T1.out.cells; obtain ⟨i0, i1, i2⟩ := BD1.out.three)))
        have TT := Lib.hid T1.out.drew
        have BT := Lib.hid BD1.out.drew
        have hdT := hd2.drew
        clear f0 f1 f2 f3 f4 f5 f6 f7 f8 f9 f10 f11 g0 g1 g2 g3 g4 g5 g6 g7 g8 g9 g10 g11 i0 i1 i2
        go_region_held3 (fun w' => w'.cell? ⟨w.heap.size, 0, none⟩ = some (.bool n0) ∧ w'.cell? ⟨w.heap.size, 1, none⟩ = some (.slice p1 l1 k1) ∧ w'.cell? ⟨w.heap.size, 2, none⟩ = some (.slice p2 l2 k2) ∧ w'.cell? ⟨w.heap.size + 1, 0, none⟩ = some (.bool n1) ∧ w'.cell? ⟨w.heap.size + 1, 1, none⟩ = some (.slice p3 l3 k3) ∧ w'.cell? ⟨w.heap.size + 1, 2, none⟩ = some (.slice p4 l4 k4) ∧ w'.cell? ⟨X, 0, none⟩ = some (.bool xn) ∧ w'.cell? ⟨X, 1, none⟩ = some (.slice p5 l5 k5) ∧ w'.cell? ⟨X, 2, none⟩ = some (.slice p6 l6 k6) ∧ w'.cell? ⟨Y, 0, none⟩ = some (.bool yn) ∧ w'.cell? ⟨Y, 1, none⟩ = some (.slice p7 l7 k7) ∧ w'.cell? ⟨Y, 2, none⟩ = some (.slice p8 l8 k8) ∧ w'.cell? ⟨w1.heap.size, 0, none⟩ = some (.bool dn) ∧ w'.cell? ⟨w1.heap.size, 1, none⟩ = some (.slice q1 r1 s1) ∧ w'.cell? ⟨w1.heap.size, 2, none⟩ = some (.slice q2 r2 s2))
          (first | exact all15b TT.out.cells BT.out.three | exact all15b T2.out.cells B2.out.three | exact all15b T3.out.cells B3.out.three | exact all15b T4.out.cells B4.out.three | exact all15b T5.out.cells B5.out.three | exact all15b T6.out.cells B6.out.three | exact all15b T7.out.cells B7.out.three)
          (first
            | (go_at_call 14; ((with_reducible refine (rawake_r _).mono ?_); rintro e w2 ⟨rfl, hb2⟩; have T2 := Lib.hid (TT.out.keep hb2); have B2 := Lib.hid (BT.out.keep hb2); have hd3 := hdT.keep hb2))
            | (go_at_call 26; ((with_reducible refine (RV.out _ _ _ T2.out.vx.at T2.out.vy.at).mono ?_); rintro e w3 ⟨lo3, hi3, q3, r3, s3, q4, r4, s4, rfl, hx3, hlo3, hhi3, hb3⟩; have T3 := Lib.hid (T2.out.keep hb3); have B3 := Lib.hid (B2.out.keep hb3); have hd4 := hd3.keep hb3))
            | (go_at_call 15; ((with_reducible refine (ris_r hd4 hx3.at (by omega)).mono ?_); rintro e w4 ⟨rfl, hb4⟩; have T4 := Lib.hid (T3.out.keep hb4); have B4 := Lib.hid (B3.out.keep hb4)))
            | (go_at_call 34; ((with_reducible refine (MU.out _ _ _ T4.out.P.va T4.out.P.vb).mono ?_); rintro e w5 ⟨q5, r5, s5, q6, r6, s6, rfl, hv5, hb5⟩; have T5 := Lib.hid (T4.out.keep hb5); have B5 := Lib.hid (B4.out.keep hb5)))
            | (go_at_call 35; ((with_reducible refine (RM.out _ _ _ T5.out.vx.at T5.out.vy.at).mono ?_); rintro e w6 ⟨lo6, hi6, q7, r7, s7, q8, r8, s8, rfl, hx6, hlo6, hhi6, hb6⟩; have T6 := Lib.hid (T5.out.keep hb6); have B6 := Lib.hid (B5.out.keep hb6); have hv6 := hv5.keep hb6))
            | (go_at_call 15; ((with_reducible refine (ris_r hv6 hx6.at (by omega)).mono ?_); rintro e w7 ⟨rfl, hb7⟩; have T7 := Lib.hid (T6.out.keep hb7); have B7 := Lib.hid (B6.out.keep hb7))))
        all_goals
          go_wp2_with fail
          go_ret
          exact ⟨rfl, T7.out.P.below⟩

end Go.Proofs.YtcbocdkpdedogaaDoor
