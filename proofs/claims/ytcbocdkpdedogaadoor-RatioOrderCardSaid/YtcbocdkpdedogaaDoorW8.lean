import Derived.Test.YtcbocdkpdedogaaDoorRU
import Derived.Test.YtcbocdkpdedogaaDoorR10b
import Derived.Test.YtcbocdkpdedogaaDoorR7
import Derived.Deep.DeepCutAuto
import Derived.Deep.CutBlock
import Derived.Deep.RegionHeld3
import Derived.Test.YtcbocdkpdedogaaDoorR12c
import Derived.Test.YtcbocdkpdedogaaDoorR14
import Derived.Test.YtcbocdkpdedogaaDoorR19
import Derived.Test.YtcbocdkpdedogaaDoorRF
import Derived.Test.YtcbocdkpdedogaaDoorRV
namespace Go.Proofs.YtcbocdkpdedogaaDoor
open Go.RowKit Go.Proofs.Kit Go.Proofs.Nums

set_option maxRecDepth 100000 in
set_option maxHeartbeats 16000000 in
theorem walk_RatioOrder {w : World} (v0 : Value) (n0 : Bool) (a0 b0 : List Nat) (h0 : RatL w v0 n0 a0 b0) (v1 : Value) (n1 : Bool) (c0 d0 : List Nat) (h1 : RatL w v1 n1 c0 d0) :
    Calls Tryd.prog 10 #[v0, v1] w fun e w' => e = .returned (.bool true) ∧ Below w.heap.size w w' := by
  obtain ⟨p1, l1, k1, p2, l2, k2, rfl⟩ := h0.shape
  obtain ⟨p3, l3, k3, p4, l4, k4, rfl⟩ := h1.shape
  have SA0 := fun w' (hb : Below w.heap.size w w') => gl_of (rshort_r (h0.keep hb) 2 (by omega) 2 rfl)
  have SB0 := fun w' (hb : Below w.heap.size w w') => gl_of (rshort_r (h1.keep hb) 2 (by omega) 2 rfl)
  obtain ⟨a, ha⟩ : ∃ a, a0.take 2 = a := ⟨_, rfl⟩
  obtain ⟨b, hb⟩ : ∃ b, b0.take 2 = b := ⟨_, rfl⟩
  obtain ⟨c, hc⟩ : ∃ c, c0.take 2 = c := ⟨_, rfl⟩
  obtain ⟨d, hd⟩ : ∃ d, d0.take 2 = d := ⟨_, rfl⟩
  have hla : a.length ≤ 2 := by rw [← ha]; simp only [List.length_take]; omega
  have hlb : b.length ≤ 2 := by rw [← hb]; simp only [List.length_take]; omega
  have hlc : c.length ≤ 2 := by rw [← hc]; simp only [List.length_take]; omega
  have hld : d.length ≤ 2 := by rw [← hd]; simp only [List.length_take]; omega
  have hva : (val (a0.take 2) < 4294967296 ^ 2 ∧ val (b0.take 2) < 4294967296 ^ 2) ∧ (val (c0.take 2) < 4294967296 ^ 2 ∧ val (d0.take 2) < 4294967296 ^ 2) := by
    obtain ⟨_, _, _, g1, g2⟩ := h0
    obtain ⟨_, _, _, g3, g4⟩ := h1
    exact ⟨⟨lim_lt (g1.2.take 2) (by rw [ha]; exact hla), lim_lt (g2.2.take 2) (by rw [hb]; exact hlb)⟩, ⟨lim_lt (g3.2.take 2) (by rw [hc]; exact hlc), lim_lt (g4.2.take 2) (by rw [hd]; exact hld)⟩⟩
  rw [ha, hb] at SA0
  rw [hc, hd] at SB0
  rw [ha, hb, hc, hd] at hva
  have SA : Hid (∀ w', Below w.heap.size w w' → Calls Tryd.prog 12 #[.agg #[.bool n0, .slice p1 l1 k1, .slice p2 l2 k2], .int .i64 2] w' (GivesL n0 a b w')) := Lib.hid SA0
  have SB : Hid (∀ w', Below w.heap.size w w' → Calls Tryd.prog 12 #[.agg #[.bool n1, .slice p3 l3 k3, .slice p4 l4 k4], .int .i64 2] w' (GivesL n1 c d w')) := Lib.hid SB0
  obtain ⟨qa, hqa⟩ : ∃ q : Q, (⟨n0, val a, val b⟩ : Q) = q := ⟨_, rfl⟩
  obtain ⟨qb, hqb⟩ : ∃ q : Q, (⟨n1, val c, val d⟩ : Q) = q := ⟨_, rfl⟩
  obtain ⟨⟨xn, xN, xD⟩, hx⟩ : ∃ x, qa.norm = x := ⟨_, rfl⟩
  obtain ⟨⟨yn, yN, yD⟩, hy⟩ : ∃ y, qb.norm = y := ⟨_, rfl⟩
  have HA : Hid (∀ v w', RatL w' v n0 a b → RatAt w' v qa 2) := Lib.hid (fun v w' h => by rw [← hqa]; exact h.at hla hlb)
  have HB : Hid (∀ v w', RatL w' v n1 c d → RatAt w' v qb 2) := Lib.hid (fun v w' h => by rw [← hqb]; exact h.at hlc hld)
  have FA : Hid (∀ v w', RatL w' v n0 a b → Calls Tryd.prog 13 #[v] w' (GivesR ⟨xn, xN, xD⟩ w')) := Lib.hid (fun v w' h => by
    have := gr_of (rfrom_r (HA.out v w' h) (by omega))
    rw [hx] at this
    exact this)
  have FB : Hid (∀ v w', RatL w' v n1 c d → Calls Tryd.prog 13 #[v] w' (GivesR ⟨yn, yN, yD⟩ w')) := Lib.hid (fun v w' h => by
    have := gr_of (rfrom_r (HB.out v w' h) (by omega))
    rw [hy] at this
    exact this)
  have SZX : Hid ((⟨xn, xN, xD⟩ : Q).Sz 10000) := Lib.hid (by
    have := sz_norm (q := qa) (L := 2) (by rw [← hqa]; exact hva.1.1) (by rw [← hqa]; exact hva.1.2) (by omega) (by omega)
    rw [hx] at this; exact this)
  have SZY : Hid ((⟨yn, yN, yD⟩ : Q).Sz 10000) := Lib.hid (by
    have := sz_norm (q := qb) (L := 2) (by rw [← hqb]; exact hva.2.1) (by rw [← hqb]; exact hva.2.2) (by omega) (by omega)
    rw [hy] at this; exact this)
  have HX := Lib.hid hx
  have HY := Lib.hid hy
  obtain ⟨C, hC⟩ : ∃ C, Q.cmp qa qb = C := ⟨_, rfl⟩
  have hC2 : cmpD (Q.addR ⟨xn, xN, xD⟩ (Q.mk' (!yn) yN yD)) = C := by
    have := cmpD_cmp qa qb
    rw [hx, hy, hC] at this
    exact this
  obtain ⟨⟨en, eN, eD⟩, heq⟩ : ∃ s : Q, (if C ≤ 0 then (⟨xn, xN, xD⟩ : Q) else ⟨yn, yN, yD⟩) = s := ⟨_, rfl⟩
  obtain ⟨⟨gn, gN, gD⟩, hgq⟩ : ∃ s : Q, (if C ≥ 0 then (⟨xn, xN, xD⟩ : Q) else ⟨yn, yN, yD⟩) = s := ⟨_, rfl⟩
  have HL : Hid (C ≤ 0 → (⟨en, eN, eD⟩ : Q) = ⟨xn, xN, xD⟩ ∧ (⟨gn, gN, gD⟩ : Q) = ⟨yn, yN, yD⟩) := Lib.hid (fun h0 => by
    refine ⟨?_, ?_⟩
    · rw [← heq, if_pos h0]
    · rw [← hgq]
      by_cases h1 : C ≥ 0
      · rw [if_pos h1, ← hx, ← hy]
        exact Q.cmp_zero (by rw [hC]; omega)
      · rw [if_neg h1])
  have HG : Hid (0 < C → (⟨en, eN, eD⟩ : Q) = ⟨yn, yN, yD⟩ ∧ (⟨gn, gN, gD⟩ : Q) = ⟨xn, xN, xD⟩) := Lib.hid (fun h0 => by
    refine ⟨?_, ?_⟩
    · rw [← heq, if_neg (by omega)]
    · rw [← hgq, if_pos (by omega)])
  have eMi : (if Q.cmp qa qb ≤ 0 then qa.norm else qb.norm) = ⟨en, eN, eD⟩ := by rw [hC, hx, hy]; exact heq
  have eMa : (if Q.cmp qa qb ≥ 0 then qa.norm else qb.norm) = ⟨gn, gN, gD⟩ := by rw [hC, hx, hy]; exact hgq
  have CM : Hid (∀ va vb w', RatL w' va n0 a b → RatL w' vb n1 c d → Calls Tryd.prog 36 #[va, vb] w' fun e w'' => e = .returned (.int .i64 C) ∧ Below w'.heap.size w' w'') := Lib.hid (fun va vb w' h h' => by
    have := cmp_r (HA.out _ _ h) (HB.out _ _ h') (by omega) (by omega)
    rw [hC] at this
    exact this)
  have RC : Hid (∀ va vb w', RAt w' va ⟨xn, xN, xD⟩ → RAt w' vb ⟨yn, yN, yD⟩ → Calls Tryd.prog 37 #[va, vb] w' fun e w'' => e = .returned (.int .i64 C) ∧ Below w'.heap.size w' w'') := Lib.hid (fun va vb w' h h' => by
    have := rcmp_r h h' SZX.out SZY.out
    simp only at this
    rw [hC2] at this
    exact this)
  have MI : Hid (∀ va vb w', RatL w' va n0 a b → RatL w' vb n1 c d → Calls Tryd.prog 38 #[va, vb] w' (GivesN ⟨en, eN, eD⟩ 2 w')) := Lib.hid (fun va vb w' h h' => by
    have := gn_of (min_r (HA.out _ _ h) (HB.out _ _ h') (by omega) (by omega))
    rw [eMi] at this
    exact this)
  have MX : Hid (∀ va vb w', RatL w' va n0 a b → RatL w' vb n1 c d → Calls Tryd.prog 39 #[va, vb] w' (GivesN ⟨gn, gN, gD⟩ 2 w')) := Lib.hid (fun va vb w' h h' => by
    have := gn_of (max_r (HA.out _ _ h) (HB.out _ _ h') (by omega) (by omega))
    rw [eMa] at this
    exact this)
  clear hC hC2 heq hgq eMi eMa
  clear SA0 SB0 ha hb hc hd hla hlb hlc hld hva h0 h1 hqa hqb hx hy
  have bA := (Blk.new w #[.bool n0, .slice p1 l1 k1, .slice p2 l2 k2] 25).alloc (.cells #[.bool n1, .slice p3 l3 k3, .slice p4 l4 k4] 25)
  have bB := Blk.new (w.alloc (.cells #[.bool n0, .slice p1 l1 k1, .slice p2 l2 k2] 25)) #[.bool n1, .slice p3 l3 k3, .slice p4 l4 k4] 25
  rw [World.size_alloc] at bB
  have hBW : Below w.heap.size w ((w.alloc (.cells #[.bool n0, .slice p1 l1 k1, .slice p2 l2 k2] 25)).alloc (.cells #[.bool n1, .slice p3 l3 k3, .slice p4 l4 k4] 25)) := bal (bal (Below.refl w.heap.size w) _) _
  go_enter Tryd.func10, Tryd.ntmps10
  go_upto_region 1 with fail
  revert bA bB hBW
  generalize (w.alloc (.cells #[.bool n0, .slice p1 l1 k1, .slice p2 l2 k2] 25)).alloc (.cells #[.bool n1, .slice p3 l3 k3, .slice p4 l4 k4] 25) = W
  intro bA bB hBW
  go_cut [4] (fun s wx => s = .bool false ∧ Hid (St1 w n0 a b n1 c d wx))
  case first =>
    have A0 := Lib.hid bA.drew
    have B0 := Lib.hid bB.drew
    have hB0 := hBW.drew
    have C0 := cells6 A0.out B0.out
    obtain ⟨c0, c1, c2, c3, c4, c5⟩ := C0
    clear bA bB hBW
    go_region_with (first
      | (go_at_call 12; ((with_reducible refine (SA.out _ hB0).mono ?_); rintro e w1 ⟨q1, r1, s1, q2, r2, s2, rfl, hv1, hb1⟩; have hB1 := bel2' hB0 hb1; have A1 := Lib.hid (A0.out.keep hb1); have B1 := Lib.hid (B0.out.keep hb1); obtain ⟨e0, e1, e2, e3, e4, e5⟩ := cells6 A1.out B1.out))
      | (go_at_call 12; ((with_reducible refine (SB.out _ hB1).mono ?_); rintro e w2 ⟨q3, r3, s3, q4, r4, s4, rfl, hv2, hb2⟩; have hB2 := bel2' hB1 hb2; have A2 := Lib.hid (A1.out.keep hb2); have B2 := Lib.hid (B1.out.keep hb2); have hv12 := hv1.keep hb2; obtain ⟨f0, f1, f2, f3, f4, f5⟩ := cells6 A2.out B2.out; obtain ⟨g0, g1, g2⟩ := A2.out.free3; obtain ⟨g3, g4, g5⟩ := B2.out.free3)))
    all_goals
      go_wp2_with fail
      go_meet
      exact ⟨rfl, Lib.hid (St1.of A2.out B2.out hv12 hv2 hB2)⟩
  case rest =>
    obtain ⟨rfl, hst⟩ := hcut
    obtain ⟨p1, l1, k1, p2, l2, k2, p3, l3, k3, p4, l4, k4, hP⟩ := hst.out
    have P0 := Lib.hid hP
    clear hst hP bA bB hBW SA SB
    go_upto_region 2 with fail
    go_cut [5, 6] (fun sx sy wx => ∃ X Y, sx = .pointer (some ⟨X, 0, none⟩) ∧ sy = .pointer (some ⟨Y, 0, none⟩) ∧ Hid (St2 w n0 a b n1 c d ⟨xn, xN, xD⟩ ⟨yn, yN, yD⟩ X Y wx))
    case first =>
      have hz0 := P0.out.B.1
      go_region_held3 (fun w' => w'.cell? ⟨w.heap.size, 0, none⟩ = some (.bool n0) ∧ w'.cell? ⟨w.heap.size, 1, none⟩ = some (.slice p1 l1 k1) ∧ w'.cell? ⟨w.heap.size, 2, none⟩ = some (.slice p2 l2 k2) ∧ w'.cell? ⟨w.heap.size + 1, 0, none⟩ = some (.bool n1) ∧ w'.cell? ⟨w.heap.size + 1, 1, none⟩ = some (.slice p3 l3 k3) ∧ w'.cell? ⟨w.heap.size + 1, 2, none⟩ = some (.slice p4 l4 k4))
        ((first | with_reducible exact P0.out.drew.cells | with_reducible exact (P0.out.alloc _).drew.cells | with_reducible exact ((P0.out.alloc _).alloc _).drew.cells | with_reducible exact P1.out.cells | with_reducible exact (P1.out.alloc _).cells | with_reducible exact ((P1.out.alloc _).alloc _).cells | with_reducible exact Q2.out.cells | with_reducible exact (Q2.out.alloc _).cells | with_reducible exact ((Q2.out.alloc _).alloc _).cells | ((with_reducible refine six_put _ _ _ ?_ (by omega)); first | with_reducible exact Q2.out.cells | with_reducible exact (Q2.out.alloc _).cells | with_reducible exact ((Q2.out.alloc _).alloc _).cells) | ((with_reducible refine six_put _ _ _ ?_ (by omega)); (with_reducible refine six_put _ _ _ ?_ (by omega)); first | with_reducible exact Q2.out.cells | with_reducible exact (Q2.out.alloc _).cells | with_reducible exact ((Q2.out.alloc _).alloc _).cells)))
        (first
          | (go_at_call 13; ((with_reducible refine (FA.out _ _ (by with_reducible first | exact P0.out.drew.va | exact (P0.out.alloc _).drew.va | exact ((P0.out.alloc _).alloc _).drew.va)).mono ?_); rintro e w1 ⟨lo1, hi1, p5, l5, k5, p6, l6, k6, rfl, hx1, hlo1, hhi1, hb1⟩; have P1 : Hid (P2 w #[.bool n0, .slice p1 l1 k1, .slice p2 l2 k2] #[.bool n1, .slice p3 l3 k3, .slice p4 l4 k4] (.agg #[.bool n0, .slice p1 l1 k1, .slice p2 l2 k2]) (.agg #[.bool n1, .slice p3 l3 k3, .slice p4 l4 k4]) n0 a b n1 c d w1) := Lib.hid (by with_reducible first | exact P0.out.drew.keep hb1 | exact (P0.out.alloc _).drew.keep hb1 | exact ((P0.out.alloc _).alloc _).drew.keep hb1); have hs1 := hb1.size; (try simp at hs1 hlo1); (try have X1a : Hid (Blk wc.heap.size #[.bool false, .slice none 0 0, .slice none 0 0] w1) := Lib.hid (by with_reducible first | exact (Blk.new' _ _ _ rfl).drew.keep hb1 | exact ((Blk.new' _ _ _ rfl).alloc _).drew.keep hb1)); (try have X1b : Hid (Blk (wc.heap.size + 1) #[.bool false, .slice none 0 0, .slice none 0 0] w1) := Lib.hid ((Blk.new' _ _ _ (World.size_alloc _ _).symm).drew.keep hb1)); (try have n02 : wc.heap.size ≠ w1.heap.size := by omega); (try have n20 : w1.heap.size ≠ wc.heap.size := by omega)))
          | (go_at_call 13; ((with_reducible refine (FB.out _ _ (by with_reducible first | exact P1.out.vb | exact (P1.out.alloc _).vb | exact ((P1.out.alloc _).alloc _).vb)).mono ?_); rintro e w2 ⟨lo2, hi2, p7, l7, k7, p8, l8, k8, rfl, hy2, hlo2, hhi2, hb2⟩; have Q2 : Hid (P2 w #[.bool n0, .slice p1 l1 k1, .slice p2 l2 k2] #[.bool n1, .slice p3 l3 k3, .slice p4 l4 k4] (.agg #[.bool n0, .slice p1 l1 k1, .slice p2 l2 k2]) (.agg #[.bool n1, .slice p3 l3 k3, .slice p4 l4 k4]) n0 a b n1 c d w2) := Lib.hid (by with_reducible first | exact P1.out.keep hb2 | exact (P1.out.alloc _).keep hb2 | exact ((P1.out.alloc _).alloc _).keep hb2); have hs2 := hb2.size; (try simp at hs2 hlo2); (try have X2a : Hid (Blk wc.heap.size #[.bool false, .slice none 0 0, .slice none 0 0] w2) := Lib.hid (by with_reducible first | exact X1a.out.keep hb2 | exact (X1a.out.alloc _).keep hb2)); (try have X2b : Hid (Blk (wc.heap.size + 1) #[.bool false, .slice none 0 0, .slice none 0 0] w2) := Lib.hid (X1b.out.keep hb2)); (try have X2c : Hid (Blk w1.heap.size #[.bool false, .slice none 0 0, .slice none 0 0] w2) := Lib.hid (by with_reducible first | exact (Blk.new' _ _ _ rfl).keep hb2 | exact ((Blk.new' _ _ _ rfl).alloc _).keep hb2)); (try have X2d : Hid (Blk (w1.heap.size + 1) #[.bool false, .slice none 0 0, .slice none 0 0] w2) := Lib.hid ((Blk.new' _ _ _ (World.size_alloc _ _).symm).keep hb2)); (try (obtain ⟨ua0, ua1, ua2⟩ := X2a.out.three; obtain ⟨ta0, ta1, ta2⟩ := X2a.out.free3; obtain ⟨uaa0, uaa1, uaa2⟩ := (X2a.out.alloc (.cells #[.bool false, .slice none 0 0, .slice none 0 0] 30)).three; obtain ⟨taa0, taa1, taa2⟩ := (X2a.out.alloc (.cells #[.bool false, .slice none 0 0, .slice none 0 0] 30)).free3; obtain ⟨uba0, uba1, uba2⟩ := (X2a.out.alloc (.cells #[.bool xn, .slice p5 l5 k5, .slice p6 l6 k6] 30)).three; obtain ⟨tba0, tba1, tba2⟩ := (X2a.out.alloc (.cells #[.bool xn, .slice p5 l5 k5, .slice p6 l6 k6] 30)).free3)); (try (obtain ⟨ub0, ub1, ub2⟩ := X2b.out.three; obtain ⟨tb0, tb1, tb2⟩ := X2b.out.free3; obtain ⟨uab0, uab1, uab2⟩ := (X2b.out.alloc (.cells #[.bool false, .slice none 0 0, .slice none 0 0] 30)).three; obtain ⟨tab0, tab1, tab2⟩ := (X2b.out.alloc (.cells #[.bool false, .slice none 0 0, .slice none 0 0] 30)).free3; obtain ⟨ubb0, ubb1, ubb2⟩ := (X2b.out.alloc (.cells #[.bool xn, .slice p5 l5 k5, .slice p6 l6 k6] 30)).three; obtain ⟨tbb0, tbb1, tbb2⟩ := (X2b.out.alloc (.cells #[.bool xn, .slice p5 l5 k5, .slice p6 l6 k6] 30)).free3)); (try (obtain ⟨uc0, uc1, uc2⟩ := X2c.out.three; obtain ⟨tc0, tc1, tc2⟩ := X2c.out.free3; obtain ⟨uac0, uac1, uac2⟩ := (X2c.out.alloc (.cells #[.bool false, .slice none 0 0, .slice none 0 0] 30)).three; obtain ⟨tac0, tac1, tac2⟩ := (X2c.out.alloc (.cells #[.bool false, .slice none 0 0, .slice none 0 0] 30)).free3; obtain ⟨ubc0, ubc1, ubc2⟩ := (X2c.out.alloc (.cells #[.bool xn, .slice p5 l5 k5, .slice p6 l6 k6] 30)).three; obtain ⟨tbc0, tbc1, tbc2⟩ := (X2c.out.alloc (.cells #[.bool xn, .slice p5 l5 k5, .slice p6 l6 k6] 30)).free3)); (try (obtain ⟨ud0, ud1, ud2⟩ := X2d.out.three; obtain ⟨td0, td1, td2⟩ := X2d.out.free3; obtain ⟨uad0, uad1, uad2⟩ := (X2d.out.alloc (.cells #[.bool false, .slice none 0 0, .slice none 0 0] 30)).three; obtain ⟨tad0, tad1, tad2⟩ := (X2d.out.alloc (.cells #[.bool false, .slice none 0 0, .slice none 0 0] 30)).free3; obtain ⟨ubd0, ubd1, ubd2⟩ := (X2d.out.alloc (.cells #[.bool xn, .slice p5 l5 k5, .slice p6 l6 k6] 30)).three; obtain ⟨tbd0, tbd1, tbd2⟩ := (X2d.out.alloc (.cells #[.bool xn, .slice p5 l5 k5, .slice p6 l6 k6] 30)).free3)); (try have n24 : w1.heap.size ≠ w2.heap.size := by omega); (try have n42 : w2.heap.size ≠ w1.heap.size := by omega); (try have n04 : wc.heap.size ≠ w2.heap.size := by omega); (try have n40 : w2.heap.size ≠ wc.heap.size := by omega))))
      all_goals
        go_wp2_with fail
        go_meet
        refine ⟨_, _, rfl, rfl, Lib.hid ?_⟩
        have hxk : RIn w2 (.agg #[.bool xn, .slice p5 l5 k5, .slice p6 l6 k6]) ⟨xn, xN, xD⟩ lo1 hi1 := (by first | exact hx1.keep hb2 | exact (hx1.al _).keep hb2 | exact ((hx1.al _).al _).keep hb2)
        have hzw := Q2.out.B.1
        first
          | ((with_reducible refine St2.of1 Q2.out hxk hy2 ?_ ?_); all_goals omega)
          | ((with_reducible refine St2.of2 Q2.out hxk hy2 ?_ ?_); all_goals omega)
          | ((with_reducible refine St2.of4 Q2.out ?_ hxk hy2 ?_ ?_ ?_); (first | with_reducible exact X2a.out | with_reducible exact X2b.out | with_reducible exact X2c.out | with_reducible exact X2d.out); all_goals omega)
          | ((with_reducible refine St2.of Q2.out ?_ ?_ hxk hy2 ?_ ?_ ?_ ?_ ?_ ?_ ?_); (first | with_reducible exact X2a.out | with_reducible exact X2b.out | with_reducible exact X2c.out | with_reducible exact X2d.out); (first | with_reducible exact X2a.out | with_reducible exact X2b.out | with_reducible exact X2c.out | with_reducible exact X2d.out); all_goals omega)
          | ((with_reducible refine St2.of (Q2.out.alloc _) ?_ (Blk.new' _ _ _ rfl) (hxk.al _) (hy2.al _) ?_ ?_ ?_ ?_ ?_ ?_ ?_); (first | with_reducible exact (X2a.out.alloc _) | with_reducible exact (X2b.out.alloc _) | with_reducible exact (X2c.out.alloc _) | with_reducible exact (X2d.out.alloc _)); all_goals (first | omega | (simp only [World.size_alloc]; omega)))
    case rest =>
      obtain ⟨X, Y, rfl, rfl, hst⟩ := hcut
      obtain ⟨p1, l1, k1, p2, l2, k2, p3, l3, k3, p4, l4, k4, p5, l5, k5, p6, l6, k6, p7, l7, k7, p8, l8, k8, hT⟩ := hst.out
      have T0 := Lib.hid hT
      clear hst hT P0 FA FB
      obtain ⟨f0, f1, f2, f3, f4, f5, f6, f7, f8, f9, f10, f11⟩ := T0.out.cells
      go_upto_region 4 with (first
        | (go_at_call 37; ((with_reducible refine (RC.out _ _ _ T0.out.vx.at T0.out.vy.at).mono ?_); rintro e w1 ⟨rfl, hb1⟩; have T1 := Lib.hid (T0.out.keep hb1))))
      clear f0 f1 f2 f3 f4 f5 f6 f7 f8 f9 f10 f11 T0
      go_cut [8, 9] (fun s t wx => ∃ M N, s = .pointer (some ⟨M, 0, none⟩) ∧ t = .pointer (some ⟨N, 0, none⟩) ∧ Hid (P6 w X Y M N #[.bool n0, .slice p1 l1 k1, .slice p2 l2 k2] #[.bool n1, .slice p3 l3 k3, .slice p4 l4 k4] #[.bool xn, .slice p5 l5 k5, .slice p6 l6 k6] #[.bool yn, .slice p7 l7 k7, .slice p8 l8 k8] #[.bool xn, .slice p5 l5 k5, .slice p6 l6 k6] #[.bool yn, .slice p7 l7 k7, .slice p8 l8 k8] (.agg #[.bool n0, .slice p1 l1 k1, .slice p2 l2 k2]) (.agg #[.bool n1, .slice p3 l3 k3, .slice p4 l4 k4]) (.agg #[.bool xn, .slice p5 l5 k5, .slice p6 l6 k6]) (.agg #[.bool yn, .slice p7 l7 k7, .slice p8 l8 k8]) n0 a b n1 c d ⟨xn, xN, xD⟩ ⟨yn, yN, yD⟩ w1.heap.size wx))
      case first =>
        have hzx := T1.out.bx.1
        have hzy := T1.out.by'.1
        have hzb := T1.out.P.B.1
        have hdis := T1.out.dis
        obtain ⟨f0, f1, f2, f3, f4, f5⟩ := cells6 T1.out.drew.bx T1.out.drew.by'
        go_region_held3 (fun w' => w'.cell? ⟨X, 0, none⟩ = some (.bool xn) ∧ w'.cell? ⟨X, 1, none⟩ = some (.slice p5 l5 k5) ∧ w'.cell? ⟨X, 2, none⟩ = some (.slice p6 l6 k6) ∧ w'.cell? ⟨Y, 0, none⟩ = some (.bool yn) ∧ w'.cell? ⟨Y, 1, none⟩ = some (.slice p7 l7 k7) ∧ w'.cell? ⟨Y, 2, none⟩ = some (.slice p8 l8 k8))
          (first | exact cells6 T1.out.drew.bx T1.out.drew.by' | exact cells6 (T1.out.alloc _).drew.bx (T1.out.alloc _).drew.by' | exact cells6 ((T1.out.alloc _).alloc _).drew.bx ((T1.out.alloc _).alloc _).drew.by' | exact cells6 (T1.out.drew.alloc _).bx (T1.out.drew.alloc _).by' | exact cells6 ((T1.out.drew.alloc _).alloc _).bx ((T1.out.drew.alloc _).alloc _).by')
          (first | fail)
        all_goals
          go_wp2_with fail
          go_meet
          refine ⟨_, _, rfl, rfl, Lib.hid ?_⟩
          first
            | exact P6.new1 T1.out.drew rfl
            | exact P6.new2 T1.out.drew rfl
            | exact (P6.new1 T1.out rfl).drew
            | exact (P6.new2 T1.out rfl).drew
      case rest =>
        obtain ⟨M, N, rfl, rfl, hU⟩ := hcut
        have U0 := Lib.hid hU.out
        clear hU T1
        have hU := U0.out.dis
        by_cases h0 : 0 < C
        · obtain ⟨e1, e2⟩ := HG.out h0
          obtain ⟨rfl, rfl, rfl⟩ := Q.mk.inj e1.symm
          obtain ⟨rfl, rfl, rfl⟩ := Q.mk.inj e2.symm
          have hd0 : decide ((0 : Int) < C) = true := decide_eq_true h0
          clear e1 e2 HL HG
          go_upto_region 6 with fail
          go_cut [8] (fun s wx => s = .pointer (some ⟨M, 0, none⟩) ∧ Hid (P6 w X Y M N #[.bool n0, .slice p1 l1 k1, .slice p2 l2 k2] #[.bool n1, .slice p3 l3 k3, .slice p4 l4 k4] #[.bool xn, .slice p5 l5 k5, .slice p6 l6 k6] #[.bool yn, .slice p7 l7 k7, .slice p8 l8 k8] #[.bool yn, .slice p7 l7 k7, .slice p8 l8 k8] #[.bool xn, .slice p5 l5 k5, .slice p6 l6 k6] (.agg #[.bool n0, .slice p1 l1 k1, .slice p2 l2 k2]) (.agg #[.bool n1, .slice p3 l3 k3, .slice p4 l4 k4]) (.agg #[.bool xn, .slice p5 l5 k5, .slice p6 l6 k6]) (.agg #[.bool yn, .slice p7 l7 k7, .slice p8 l8 k8]) n0 a b n1 c d ⟨xn, xN, xD⟩ ⟨yn, yN, yD⟩ w1.heap.size wx))
          case first =>
            obtain ⟨f0, f1, f2, f3, f4, f5⟩ := cells6 U0.out.drew.bx U0.out.drew.by'
            obtain ⟨g0, g1, g2⟩ := U0.out.drew.bm.three
            obtain ⟨g3, g4, g5⟩ := U0.out.drew.bn.three
            obtain ⟨i0, i1, i2⟩ := U0.out.drew.bm.free3
            obtain ⟨i3, i4, i5⟩ := U0.out.drew.bn.free3
            obtain ⟨fw0, fw1, fw2, fw3, fw4, fw5⟩ := cells6 U0.out.bx U0.out.by'
            obtain ⟨gw0, gw1, gw2⟩ := U0.out.bm.three
            obtain ⟨gw3, gw4, gw5⟩ := U0.out.bn.three
            obtain ⟨iw0, iw1, iw2⟩ := U0.out.bm.free3
            obtain ⟨iw3, iw4, iw5⟩ := U0.out.bn.free3
            go_region
            all_goals
              go_wp2_with fail
              go_meet
              exact ⟨rfl, Lib.hid U0.out.drew.swap⟩
          case rest =>
            obtain ⟨rfl, hU2⟩ := hcut
            go_upto_region 7 with fail
            have UU := Lib.hid hU2.out.drew
            clear hU2 U0
            go_region_held3 (fun w' => w'.cell? ⟨w.heap.size, 0, none⟩ = some (.bool n0) ∧ w'.cell? ⟨w.heap.size, 1, none⟩ = some (.slice p1 l1 k1) ∧ w'.cell? ⟨w.heap.size, 2, none⟩ = some (.slice p2 l2 k2) ∧ w'.cell? ⟨w.heap.size + 1, 0, none⟩ = some (.bool n1) ∧ w'.cell? ⟨w.heap.size + 1, 1, none⟩ = some (.slice p3 l3 k3) ∧ w'.cell? ⟨w.heap.size + 1, 2, none⟩ = some (.slice p4 l4 k4) ∧ w'.cell? ⟨M, 0, none⟩ = some (.bool yn) ∧ w'.cell? ⟨M, 1, none⟩ = some (.slice p7 l7 k7) ∧ w'.cell? ⟨M, 2, none⟩ = some (.slice p8 l8 k8) ∧ w'.cell? ⟨N, 0, none⟩ = some (.bool xn) ∧ w'.cell? ⟨N, 1, none⟩ = some (.slice p5 l5 k5) ∧ w'.cell? ⟨N, 2, none⟩ = some (.slice p6 l6 k6))
              (first | exact UU.out.cells | exact U3.out.cells | exact U4.out.cells | exact U5.out.cells | exact U6.out.cells | exact U7.out.cells | exact U8.out.cells)
              (first
                | (go_at_call 14; ((with_reducible refine (rawake_r _).mono ?_); rintro e w3 ⟨rfl, hb3⟩; have U3 := Lib.hid (UU.out.keep hb3)))
                | (go_at_call 36; ((with_reducible refine (CM.out _ _ _ U3.out.P.va U3.out.P.vb).mono ?_); rintro e w4 ⟨rfl, hb4⟩; have U4 := Lib.hid (U3.out.keep hb4)))
                | (go_at_call 38; ((with_reducible refine (MI.out _ _ _ U4.out.P.va U4.out.P.vb).mono ?_); rintro e w5 ⟨q1, r1, s1, q2, r2, s2, rfl, hv5, hb5⟩; have U5 := Lib.hid (U4.out.keep hb5)))
                | (go_at_call 15; ((with_reducible refine (ris_r hv5 U5.out.vy.at (by omega)).mono ?_); rintro e w6 ⟨rfl, hb6⟩; have U6 := Lib.hid (U5.out.keep hb6)))
                | (go_at_call 39; ((with_reducible refine (MX.out _ _ _ U6.out.P.va U6.out.P.vb).mono ?_); rintro e w7 ⟨q3, r3, s3, q4, r4, s4, rfl, hv7, hb7⟩; have U7 := Lib.hid (U6.out.keep hb7)))
                | (go_at_call 15; ((with_reducible refine (ris_r hv7 U7.out.vx.at (by omega)).mono ?_); rintro e w8 ⟨rfl, hb8⟩; have U8 := Lib.hid (U7.out.keep hb8))))
            all_goals
              go_wp2_with fail
              go_ret
              exact ⟨rfl, U8.out.P.below⟩
        · obtain ⟨e1, e2⟩ := HL.out (by omega)
          obtain ⟨rfl, rfl, rfl⟩ := Q.mk.inj e1.symm
          obtain ⟨rfl, rfl, rfl⟩ := Q.mk.inj e2.symm
          have hd0 : decide ((0 : Int) < C) = false := decide_eq_false h0
          clear e1 e2 HL HG
          go_upto_region 7 with fail
          have UU := Lib.hid U0.out.drew
          clear U0
          go_region_held3 (fun w' => w'.cell? ⟨w.heap.size, 0, none⟩ = some (.bool n0) ∧ w'.cell? ⟨w.heap.size, 1, none⟩ = some (.slice p1 l1 k1) ∧ w'.cell? ⟨w.heap.size, 2, none⟩ = some (.slice p2 l2 k2) ∧ w'.cell? ⟨w.heap.size + 1, 0, none⟩ = some (.bool n1) ∧ w'.cell? ⟨w.heap.size + 1, 1, none⟩ = some (.slice p3 l3 k3) ∧ w'.cell? ⟨w.heap.size + 1, 2, none⟩ = some (.slice p4 l4 k4) ∧ w'.cell? ⟨M, 0, none⟩ = some (.bool xn) ∧ w'.cell? ⟨M, 1, none⟩ = some (.slice p5 l5 k5) ∧ w'.cell? ⟨M, 2, none⟩ = some (.slice p6 l6 k6) ∧ w'.cell? ⟨N, 0, none⟩ = some (.bool yn) ∧ w'.cell? ⟨N, 1, none⟩ = some (.slice p7 l7 k7) ∧ w'.cell? ⟨N, 2, none⟩ = some (.slice p8 l8 k8))
            (first | exact UU.out.cells | exact U3.out.cells | exact U4.out.cells | exact U5.out.cells | exact U6.out.cells | exact U7.out.cells | exact U8.out.cells)
            (first
              | (go_at_call 14; ((with_reducible refine (rawake_r _).mono ?_); rintro e w3 ⟨rfl, hb3⟩; have U3 := Lib.hid (UU.out.keep hb3)))
              | (go_at_call 36; ((with_reducible refine (CM.out _ _ _ U3.out.P.va U3.out.P.vb).mono ?_); rintro e w4 ⟨rfl, hb4⟩; have U4 := Lib.hid (U3.out.keep hb4)))
              | (go_at_call 38; ((with_reducible refine (MI.out _ _ _ U4.out.P.va U4.out.P.vb).mono ?_); rintro e w5 ⟨q1, r1, s1, q2, r2, s2, rfl, hv5, hb5⟩; have U5 := Lib.hid (U4.out.keep hb5)))
              | (go_at_call 15; ((with_reducible refine (ris_r hv5 U5.out.vx.at (by omega)).mono ?_); rintro e w6 ⟨rfl, hb6⟩; have U6 := Lib.hid (U5.out.keep hb6)))
              | (go_at_call 39; ((with_reducible refine (MX.out _ _ _ U6.out.P.va U6.out.P.vb).mono ?_); rintro e w7 ⟨q3, r3, s3, q4, r4, s4, rfl, hv7, hb7⟩; have U7 := Lib.hid (U6.out.keep hb7)))
              | (go_at_call 15; ((with_reducible refine (ris_r hv7 U7.out.vy.at (by omega)).mono ?_); rintro e w8 ⟨rfl, hb8⟩; have U8 := Lib.hid (U7.out.keep hb8))))
          all_goals
            go_wp2_with fail
            go_ret
            exact ⟨rfl, U8.out.P.below⟩

end Go.Proofs.YtcbocdkpdedogaaDoor
