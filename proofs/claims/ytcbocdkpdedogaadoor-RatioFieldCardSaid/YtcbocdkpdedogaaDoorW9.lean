import Derived.Test.YtcbocdkpdedogaaDoorRX
import Derived.Test.YtcbocdkpdedogaaDoorR7
import Derived.Test.YtcbocdkpdedogaaDoorR9
import Derived.Test.YtcbocdkpdedogaaDoorR13
import Derived.Test.YtcbocdkpdedogaaDoorR15
import Derived.Test.YtcbocdkpdedogaaDoorR19
import Derived.Test.YtcbocdkpdedogaaDoorRF
import Derived.Deep.DeepCutAuto
import Derived.Deep.CutBlock
import Derived.Deep.RegionHeld3
namespace Go.Proofs.YtcbocdkpdedogaaDoor
open Go.RowKit Go.Proofs.Kit Go.Proofs.Nums

theorem cells9 {a b c : Nat} {x0 x1 x2 y0 y1 y2 z0 z1 z2 : Value} {w : World} (h1 : Blk a #[x0, x1, x2] w) (h2 : Blk b #[y0, y1, y2] w) (h3 : Blk c #[z0, z1, z2] w) : w.cell? ⟨a, 0, none⟩ = some x0 ∧ w.cell? ⟨a, 1, none⟩ = some x1 ∧ w.cell? ⟨a, 2, none⟩ = some x2 ∧ w.cell? ⟨b, 0, none⟩ = some y0 ∧ w.cell? ⟨b, 1, none⟩ = some y1 ∧ w.cell? ⟨b, 2, none⟩ = some y2 ∧ w.cell? ⟨c, 0, none⟩ = some z0 ∧ w.cell? ⟨c, 1, none⟩ = some z1 ∧ w.cell? ⟨c, 2, none⟩ = some z2 :=
  ⟨h1.three.1, h1.three.2.1, h1.three.2.2, h2.three.1, h2.three.2.1, h2.three.2.2, h3.three.1, h3.three.2.1, h3.three.2.2⟩

set_option maxRecDepth 100000 in
set_option maxHeartbeats 16000000 in
theorem walk_RatioField {w : World} (v0 : Value) (n0 : Bool) (a0 b0 : List Nat) (h0 : RatL w v0 n0 a0 b0) (v1 : Value) (n1 : Bool) (c0 d0 : List Nat) (h1 : RatL w v1 n1 c0 d0) (v2 : Value) (n2 : Bool) (f0 g0 : List Nat) (h2 : RatL w v2 n2 f0 g0) :
    Calls Tryd.prog 9 #[v0, v1, v2] w fun e w' => e = .returned (.bool true) ∧ Below w.heap.size w w' := by
  obtain ⟨p1, l1, k1, p2, l2, k2, rfl⟩ := h0.shape
  obtain ⟨p3, l3, k3, p4, l4, k4, rfl⟩ := h1.shape
  obtain ⟨p5, l5, k5, p6, l6, k6, rfl⟩ := h2.shape
  have SA0 := fun w' (hb : Below w.heap.size w w') => gl_of (rshort_r (h0.keep hb) 2 (by omega) 2 rfl)
  have SB0 := fun w' (hb : Below w.heap.size w w') => gl_of (rshort_r (h1.keep hb) 2 (by omega) 2 rfl)
  have SC0 := fun w' (hb : Below w.heap.size w w') => gl_of (rshort_r (h2.keep hb) 2 (by omega) 2 rfl)
  obtain ⟨a, ha⟩ : ∃ a, a0.take 2 = a := ⟨_, rfl⟩
  have hla : a.length ≤ 2 := by rw [← ha]; simp only [List.length_take]; omega
  obtain ⟨b, hb⟩ : ∃ b, b0.take 2 = b := ⟨_, rfl⟩
  have hlb : b.length ≤ 2 := by rw [← hb]; simp only [List.length_take]; omega
  obtain ⟨c, hc⟩ : ∃ c, c0.take 2 = c := ⟨_, rfl⟩
  have hlc : c.length ≤ 2 := by rw [← hc]; simp only [List.length_take]; omega
  obtain ⟨d, hd⟩ : ∃ d, d0.take 2 = d := ⟨_, rfl⟩
  have hld : d.length ≤ 2 := by rw [← hd]; simp only [List.length_take]; omega
  obtain ⟨f, hf⟩ : ∃ f, f0.take 2 = f := ⟨_, rfl⟩
  have hlf : f.length ≤ 2 := by rw [← hf]; simp only [List.length_take]; omega
  obtain ⟨g, hg⟩ : ∃ g, g0.take 2 = g := ⟨_, rfl⟩
  have hlg : g.length ≤ 2 := by rw [← hg]; simp only [List.length_take]; omega
  rw [ha, hb] at SA0
  rw [hc, hd] at SB0
  rw [hf, hg] at SC0
  have SA : Hid (∀ w', Below w.heap.size w w' → Calls Tryd.prog 12 #[.agg #[.bool n0, .slice p1 l1 k1, .slice p2 l2 k2], .int .i64 2] w' (GivesL n0 a b w')) := Lib.hid SA0
  have SB : Hid (∀ w', Below w.heap.size w w' → Calls Tryd.prog 12 #[.agg #[.bool n1, .slice p3 l3 k3, .slice p4 l4 k4], .int .i64 2] w' (GivesL n1 c d w')) := Lib.hid SB0
  have SC : Hid (∀ w', Below w.heap.size w w' → Calls Tryd.prog 12 #[.agg #[.bool n2, .slice p5 l5 k5, .slice p6 l6 k6], .int .i64 2] w' (GivesL n2 f g w')) := Lib.hid SC0
  obtain ⟨qa, hqa⟩ : ∃ q : Q, (⟨n0, val a, val b⟩ : Q) = q := ⟨_, rfl⟩
  obtain ⟨qb, hqb⟩ : ∃ q : Q, (⟨n1, val c, val d⟩ : Q) = q := ⟨_, rfl⟩
  obtain ⟨qc, hqc⟩ : ∃ q : Q, (⟨n2, val f, val g⟩ : Q) = q := ⟨_, rfl⟩
  have HA : ∀ K v w', 2 ≤ K → RatL w' v n0 a b → RatAt w' v qa K := fun K v w' hK h => by rw [← hqa]; exact h.at (Nat.le_trans hla hK) (Nat.le_trans hlb hK)
  have HB : ∀ K v w', 2 ≤ K → RatL w' v n1 c d → RatAt w' v qb K := fun K v w' hK h => by rw [← hqb]; exact h.at (Nat.le_trans hlc hK) (Nat.le_trans hld hK)
  have HC : ∀ K v w', 2 ≤ K → RatL w' v n2 f g → RatAt w' v qc K := fun K v w' hK h => by rw [← hqc]; exact h.at (Nat.le_trans hlf hK) (Nat.le_trans hlg hK)
  obtain ⟨⟨sn, sN, sD⟩, hs⟩ : ∃ s, Q.add qa qb = s := ⟨_, rfl⟩
  obtain ⟨⟨mn, mN, mD⟩, hm⟩ : ∃ s, Q.mul qa qc = s := ⟨_, rfl⟩
  obtain ⟨⟨tn, tN, tD⟩, ht⟩ : ∃ s, Q.mul qb qc = s := ⟨_, rfl⟩
  obtain ⟨⟨xn, xN, xD⟩, hx⟩ : ∃ s, Q.mul qc ⟨sn, sN, sD⟩ = s := ⟨_, rfl⟩
  have hy : Q.add ⟨mn, mN, mD⟩ ⟨tn, tN, tD⟩ = ⟨xn, xN, xD⟩ := by rw [← hm, ← ht, ← Q.distr, hs]; exact hx
  obtain ⟨⟨dn, dN, dD⟩, hdv⟩ : ∃ s, Q.div ⟨mn, mN, mD⟩ qc = s := ⟨_, rfl⟩
  obtain ⟨z, hz⟩ : ∃ z, Q.cmp qc ⟨false, 0, 0⟩ = z := ⟨_, rfl⟩
  obtain ⟨ob, hob⟩ : ∃ t : Bool, decide (qc.norm.n ≠ 0) = t := ⟨_, rfl⟩
  have HZ : Hid ((z = 0 ∧ ob = false) ∨ ((z == 0) = false ∧ ob = true ∧ Q.cmp ⟨dn, dN, dD⟩ qa = 0)) := Lib.hid (by
    by_cases h : qc.norm.n = 0
    · left
      exact ⟨by rw [← hz]; exact Q.cmp_nil.2 h, by rw [← hob]; simp [h]⟩
    · right
      refine ⟨?_, by rw [← hob]; simp [h], ?_⟩
      · rw [← hz]
        have : ¬ Q.cmp qc ⟨false, 0, 0⟩ = 0 := fun e => h (Q.cmp_nil.1 e)
        simpa using this
      · refine Q.cmp_self ?_
        rw [← hdv, ← hm, Q.div_mul qa qc h, Q.norm_idem])
  have AD : Hid (∀ va vb w', RatL w' va n0 a b → RatL w' vb n1 c d → Calls Tryd.prog 16 #[va, vb] w' (GivesN ⟨sn, sN, sD⟩ 5 w')) := Lib.hid (fun va vb w' h h' => by
    have := gn_of (add_r (HA 2 _ _ (by omega) h) (HB 2 _ _ (by omega) h') (by omega) (by omega))
    rw [hs] at this
    exact this)
  have MX : Hid (∀ va vb w', RatL w' va n2 f g → RatN w' vb ⟨sn, sN, sD⟩ 5 → Calls Tryd.prog 34 #[va, vb] w' (GivesN ⟨xn, xN, xD⟩ 10 w')) := Lib.hid (fun va vb w' h h' => by
    have := gn_of (mul_r (HC 5 _ _ (by omega) h) h'.at (by omega) (by omega))
    rw [hx] at this
    exact this)
  have MM : Hid (∀ va vb w', RatL w' va n0 a b → RatL w' vb n2 f g → Calls Tryd.prog 34 #[va, vb] w' (GivesN ⟨mn, mN, mD⟩ 4 w')) := Lib.hid (fun va vb w' h h' => by
    have := gn_of (mul_r (HA 2 _ _ (by omega) h) (HC 2 _ _ (by omega) h') (by omega) (by omega))
    rw [hm] at this
    exact this)
  have MN : Hid (∀ va vb w', RatL w' va n1 c d → RatL w' vb n2 f g → Calls Tryd.prog 34 #[va, vb] w' (GivesN ⟨tn, tN, tD⟩ 4 w')) := Lib.hid (fun va vb w' h h' => by
    have := gn_of (mul_r (HB 2 _ _ (by omega) h) (HC 2 _ _ (by omega) h') (by omega) (by omega))
    rw [ht] at this
    exact this)
  have AY : Hid (∀ va vb w', RatN w' va ⟨mn, mN, mD⟩ 4 → RatN w' vb ⟨tn, tN, tD⟩ 4 → Calls Tryd.prog 16 #[va, vb] w' (GivesN ⟨xn, xN, xD⟩ 9 w')) := Lib.hid (fun va vb w' h h' => by
    have := gn_of (add_r h.at h'.at (by omega) (by omega))
    rw [hy] at this
    exact this)
  have DV : Hid (∀ va vb w', RatN w' va ⟨mn, mN, mD⟩ 4 → RatL w' vb n2 f g → Calls Tryd.prog 33 #[va, vb] w' fun e w'' => ∃ p l k p' l' k', e = .returned (.tuple #[.agg #[.bool dn, .slice p l k, .slice p' l' k'], .bool ob]) ∧ RatN w'' (.agg #[.bool dn, .slice p l k, .slice p' l' k']) ⟨dn, dN, dD⟩ 8 ∧ Below w'.heap.size w' w'') := Lib.hid (fun va vb w' h h' => by
    have := div_r h.at (HC 4 _ _ (by omega) h') (by omega) (by omega)
    rw [hdv, hob] at this
    refine this.mono ?_
    rintro e w'' ⟨v, rfl, hv, hb⟩
    have hv2 := hv
    obtain ⟨p1, l1, k1, p2, l2, k2, rfl, _, _⟩ := hv.shape
    exact ⟨_, _, _, _, _, _, rfl, hv2, hb⟩)
  have CZ : Hid (∀ va w', RatL w' va n2 f g → Calls Tryd.prog 36 #[va, .agg #[.bool false, .slice none 0 0, .slice none 0 0]] w' fun e w'' => e = .returned (.int .i64 z) ∧ Below w'.heap.size w' w'') := Lib.hid (fun va w' h => by
    have h0 : RatAt w' (.agg #[.bool false, .slice none 0 0, .slice none 0 0]) ⟨false, 0, 0⟩ 2 := by
      have : RatL w' (.agg #[.bool false, .slice none 0 0, .slice none 0 0]) false [] [] := ⟨_, _, rfl, NatAt.nil w', NatAt.nil w'⟩
      exact this.at (by simp) (by simp)
    have := cmp_r (HC 2 _ _ (by omega) h) h0 (by omega) (by omega)
    rw [hz] at this
    exact this)
  have CQ : Hid (Q.cmp ⟨dn, dN, dD⟩ qa = 0 → ∀ va vb w', RatN w' va ⟨dn, dN, dD⟩ 8 → RatL w' vb n0 a b → Calls Tryd.prog 36 #[va, vb] w' fun e w'' => e = .returned (.int .i64 0) ∧ Below w'.heap.size w' w'') := Lib.hid (fun he va vb w' h h' => by
    have := cmp_r h.at (HA 8 _ _ (by omega) h') (by omega) (by omega)
    rw [he] at this
    exact this)
  have EQ : Hid (∀ va vb w', RatN w' va ⟨xn, xN, xD⟩ 10 → RatN w' vb ⟨xn, xN, xD⟩ 9 → Calls Tryd.prog 24 #[va, vb] w' fun e w'' => e = .returned (.bool true) ∧ Below w'.heap.size w' w'') := Lib.hid (fun va vb w' h h' => by
    have := req_r h.l h'.l (Nat.le_trans h.lens.1 (by omega)) (Nat.le_trans h.lens.2 (by omega)) (Nat.le_trans h'.lens.1 (by omega)) (Nat.le_trans h'.lens.2 (by omega))
    rw [eqR_self] at this
    exact this)
  clear SA0 SB0 SC0 ha hb hc hd hf hg hla hlb hlc hld hlf hlg h0 h1 h2 hqa hqb hqc HA HB HC hs hm ht hx hy hdv hz hob
  have bA := ((Blk.new w #[.bool n0, .slice p1 l1 k1, .slice p2 l2 k2] 25).alloc (.cells #[.bool n1, .slice p3 l3 k3, .slice p4 l4 k4] 25)).alloc (.cells #[.bool n2, .slice p5 l5 k5, .slice p6 l6 k6] 25)
  have bB := (Blk.new (w.alloc (.cells #[.bool n0, .slice p1 l1 k1, .slice p2 l2 k2] 25)) #[.bool n1, .slice p3 l3 k3, .slice p4 l4 k4] 25).alloc (.cells #[.bool n2, .slice p5 l5 k5, .slice p6 l6 k6] 25)
  have bC := Blk.new ((w.alloc (.cells #[.bool n0, .slice p1 l1 k1, .slice p2 l2 k2] 25)).alloc (.cells #[.bool n1, .slice p3 l3 k3, .slice p4 l4 k4] 25)) #[.bool n2, .slice p5 l5 k5, .slice p6 l6 k6] 25
  rw [World.size_alloc] at bB
  rw [World.size_alloc, World.size_alloc] at bC
  have hBW : Below w.heap.size w (((w.alloc (.cells #[.bool n0, .slice p1 l1 k1, .slice p2 l2 k2] 25)).alloc (.cells #[.bool n1, .slice p3 l3 k3, .slice p4 l4 k4] 25)).alloc (.cells #[.bool n2, .slice p5 l5 k5, .slice p6 l6 k6] 25)) := bal (bal (bal (Below.refl w.heap.size w) _) _) _
  go_enter Tryd.func9, Tryd.ntmps9
  go_upto_region 1 with fail
  revert bA bB bC hBW
  generalize ((w.alloc (.cells #[.bool n0, .slice p1 l1 k1, .slice p2 l2 k2] 25)).alloc (.cells #[.bool n1, .slice p3 l3 k3, .slice p4 l4 k4] 25)).alloc (.cells #[.bool n2, .slice p5 l5 k5, .slice p6 l6 k6] 25) = W
  intro bA bB bC hBW
  go_cut [6] (fun s wx => s = .bool false ∧ Hid (St3 w n0 a b n1 c d n2 f g wx))
  case first =>
    have A0 := Lib.hid bA.drew
    have B0 := Lib.hid bB.drew
    have C0 := Lib.hid bC.drew
    have hB0 := hBW.drew
    obtain ⟨c0, c1, c2, c3, c4, c5⟩ := cells6 A0.out B0.out
    obtain ⟨c6, c7, c8⟩ := C0.out.three
    clear bA bB bC hBW
    go_region_with (first
        | (go_at_call 12; ((with_reducible refine (SA.out _ hB0).mono ?_); rintro e w1 ⟨q1, r1, s1, q2, r2, s2, rfl, hv1, hb1⟩; have hB1 := bel2' hB0 hb1; have A1 := Lib.hid (A0.out.keep hb1); have B1 := Lib.hid (B0.out.keep hb1); have C1 := Lib.hid (C0.out.keep hb1); obtain ⟨e10, e11, e12, e13, e14, e15⟩ := cells6 A1.out B1.out; obtain ⟨e16, e17, e18⟩ := C1.out.three))
        | (go_at_call 12; ((with_reducible refine (SB.out _ hB1).mono ?_); rintro e w2 ⟨q3, r3, s3, q4, r4, s4, rfl, hv2, hb2⟩; have hB2 := bel2' hB1 hb2; have A2 := Lib.hid (A1.out.keep hb2); have B2 := Lib.hid (B1.out.keep hb2); have C2 := Lib.hid (C1.out.keep hb2); have hv12 := hv1.keep hb2; obtain ⟨e20, e21, e22, e23, e24, e25⟩ := cells6 A2.out B2.out; obtain ⟨e26, e27, e28⟩ := C2.out.three))
        | (go_at_call 12; ((with_reducible refine (SC.out _ hB2).mono ?_); rintro e w3 ⟨q5, r5, s5, q6, r6, s6, rfl, hv3, hb3⟩; have hB3 := bel2' hB2 hb3; have A3 := Lib.hid (A2.out.keep hb3); have B3 := Lib.hid (B2.out.keep hb3); have C3 := Lib.hid (C2.out.keep hb3); have hv13 := hv12.keep hb3; have hv23 := hv2.keep hb3; obtain ⟨f0, f1, f2, f3, f4, f5⟩ := cells6 A3.out B3.out; obtain ⟨f6, f7, f8⟩ := C3.out.three; obtain ⟨g0, g1, g2⟩ := A3.out.free3; obtain ⟨g3, g4, g5⟩ := B3.out.free3; obtain ⟨g6, g7, g8⟩ := C3.out.free3)))
    all_goals
      go_wp2_with fail
      go_meet
      exact ⟨rfl, Lib.hid (St3.of A3.out B3.out C3.out hv13 hv23 hv3 hB3)⟩
  case rest =>
    obtain ⟨rfl, hst⟩ := hcut
    obtain ⟨p1, l1, k1, p2, l2, k2, p3, l3, k3, p4, l4, k4, p5, l5, k5, p6, l6, k6, hP⟩ := hst.out
    have P0 := Lib.hid hP
    clear hst hP bA bB bC hBW SA SB SC
    go_upto_region 2 with fail
    go_cut [7] (fun s wx => ∃ X1 y1 e1 o1 z1 u1 i1, s = .pointer (some ⟨X1, 0, none⟩) ∧ Hid ((Ext (P3 w #[.bool n0, .slice p1 l1 k1, .slice p2 l2 k2] #[.bool n1, .slice p3 l3 k3, .slice p4 l4 k4] #[.bool n2, .slice p5 l5 k5, .slice p6 l6 k6] (.agg #[.bool n0, .slice p1 l1 k1, .slice p2 l2 k2]) (.agg #[.bool n1, .slice p3 l3 k3, .slice p4 l4 k4]) (.agg #[.bool n2, .slice p5 l5 k5, .slice p6 l6 k6]) n0 a b n1 c d n2 f g) (w.heap.size + 3) X1 #[.bool xn, .slice y1 e1 o1, .slice z1 u1 i1] (.agg #[.bool xn, .slice y1 e1 o1, .slice z1 u1 i1]) ⟨xn, xN, xD⟩ 10) wx))
    case first =>
      have T0 := P0
      have hz0 := P0.out.C.1
      have hz1 : w.heap.size + 3 ≤ wc.heap.size := by omega
      have OK2 : Hid (Ok (P3 w #[.bool n0, .slice p1 l1 k1, .slice p2 l2 k2] #[.bool n1, .slice p3 l3 k3, .slice p4 l4 k4] #[.bool n2, .slice p5 l5 k5, .slice p6 l6 k6] (.agg #[.bool n0, .slice p1 l1 k1, .slice p2 l2 k2]) (.agg #[.bool n1, .slice p3 l3 k3, .slice p4 l4 k4]) (.agg #[.bool n2, .slice p5 l5 k5, .slice p6 l6 k6]) n0 a b n1 c d n2 f g) (w.heap.size + 3)) := Lib.hid (P3.ok w #[.bool n0, .slice p1 l1 k1, .slice p2 l2 k2] #[.bool n1, .slice p3 l3 k3, .slice p4 l4 k4] #[.bool n2, .slice p5 l5 k5, .slice p6 l6 k6] (.agg #[.bool n0, .slice p1 l1 k1, .slice p2 l2 k2]) (.agg #[.bool n1, .slice p3 l3 k3, .slice p4 l4 k4]) (.agg #[.bool n2, .slice p5 l5 k5, .slice p6 l6 k6]) n0 a b n1 c d n2 f g)
      have TD : Hid ((P3 w #[.bool n0, .slice p1 l1 k1, .slice p2 l2 k2] #[.bool n1, .slice p3 l3 k3, .slice p4 l4 k4] #[.bool n2, .slice p5 l5 k5, .slice p6 l6 k6] (.agg #[.bool n0, .slice p1 l1 k1, .slice p2 l2 k2]) (.agg #[.bool n1, .slice p3 l3 k3, .slice p4 l4 k4]) (.agg #[.bool n2, .slice p5 l5 k5, .slice p6 l6 k6]) n0 a b n1 c d n2 f g) wc.drew) := Lib.hid (OK2.out.dr T0.out)
      have TA : Hid ((P3 w #[.bool n0, .slice p1 l1 k1, .slice p2 l2 k2] #[.bool n1, .slice p3 l3 k3, .slice p4 l4 k4] #[.bool n2, .slice p5 l5 k5, .slice p6 l6 k6] (.agg #[.bool n0, .slice p1 l1 k1, .slice p2 l2 k2]) (.agg #[.bool n1, .slice p3 l3 k3, .slice p4 l4 k4]) (.agg #[.bool n2, .slice p5 l5 k5, .slice p6 l6 k6]) n0 a b n1 c d n2 f g) (wc.alloc (.cells #[.bool false, .slice none 0 0, .slice none 0 0] 25)).drew) := Lib.hid (OK2.out.dr (OK2.out.al _ T0.out))
      have NA : Hid (Blk wc.heap.size #[.bool false, .slice none 0 0, .slice none 0 0] (wc.alloc (.cells #[.bool false, .slice none 0 0, .slice none 0 0] 25)).drew) := Lib.hid (Blk.new wc #[.bool false, .slice none 0 0, .slice none 0 0] 25).drew
      have hs0 : wc.heap.size ≤ wc.heap.size := Nat.le_refl _
      go_region_held3 (fun w' => w'.cell? ⟨w.heap.size, 0, none⟩ = some (.bool n0) ∧ w'.cell? ⟨w.heap.size, 1, none⟩ = some (.slice p1 l1 k1) ∧ w'.cell? ⟨w.heap.size, 2, none⟩ = some (.slice p2 l2 k2) ∧ w'.cell? ⟨w.heap.size + 1, 0, none⟩ = some (.bool n1) ∧ w'.cell? ⟨w.heap.size + 1, 1, none⟩ = some (.slice p3 l3 k3) ∧ w'.cell? ⟨w.heap.size + 1, 2, none⟩ = some (.slice p4 l4 k4) ∧ w'.cell? ⟨w.heap.size + 2, 0, none⟩ = some (.bool n2) ∧ w'.cell? ⟨w.heap.size + 2, 1, none⟩ = some (.slice p5 l5 k5) ∧ w'.cell? ⟨w.heap.size + 2, 2, none⟩ = some (.slice p6 l6 k6))
        (first | exact TD.out.cells | exact TA.out.cells | exact T1.out.cells | exact (OK2.out.al (.cells #[.bool false, .slice none 0 0, .slice none 0 0] 25) T1.out).cells | exact T2.out.cells | exact (OK2.out.al (.cells #[.bool false, .slice none 0 0, .slice none 0 0] 25) T2.out).cells | exact (OK2.out.pt _ _ _ _ _ T2.out (by omega) X1_2.out.noLimb).cells | exact (OK2.out.pt _ _ _ _ _ T2.out (by omega) X2_2.out.noLimb).cells | exact (OK2.out.al (.cells #[.bool xn, .slice q3 r3 s3, .slice q4 r4 s4] 25) T2.out).cells)
        (first
          | (go_at_call 16; ((with_reducible refine (AD.out _ _ _ (by with_reducible first | exact TD.out.va | exact TA.out.va) (by with_reducible first | exact TD.out.vb | exact TA.out.vb)).mono ?_); rintro e w1 ⟨q1, r1, s1, q2, r2, s2, rfl, hv1, hb1⟩; have T1 : Hid ((P3 w #[.bool n0, .slice p1 l1 k1, .slice p2 l2 k2] #[.bool n1, .slice p3 l3 k3, .slice p4 l4 k4] #[.bool n2, .slice p5 l5 k5, .slice p6 l6 k6] (.agg #[.bool n0, .slice p1 l1 k1, .slice p2 l2 k2]) (.agg #[.bool n1, .slice p3 l3 k3, .slice p4 l4 k4]) (.agg #[.bool n2, .slice p5 l5 k5, .slice p6 l6 k6]) n0 a b n1 c d n2 f g) w1) := Lib.hid (by with_reducible first | exact OK2.out.kp _ _ TD.out hb1 | exact OK2.out.kp _ _ TA.out hb1); have hs1 : wc.heap.size ≤ w1.heap.size := Nat.le_trans hs0 (by first | exact hb1.size | (have := hb1.size; simp at this; omega)); (try have X1_1 : Hid (Blk wc.heap.size #[.bool false, .slice none 0 0, .slice none 0 0] w1) := Lib.hid (NA.out.keep hb1))))
          | (go_at_call 34; ((with_reducible refine (MX.out _ _ _ (by with_reducible first | exact T1.out.vc | exact (OK2.out.al (.cells #[.bool false, .slice none 0 0, .slice none 0 0] 25) T1.out).vc) (by with_reducible first | exact hv1 | exact hv1.al _)).mono ?_); rintro e w2 ⟨q3, r3, s3, q4, r4, s4, rfl, hv2, hb2⟩; have T2 : Hid ((P3 w #[.bool n0, .slice p1 l1 k1, .slice p2 l2 k2] #[.bool n1, .slice p3 l3 k3, .slice p4 l4 k4] #[.bool n2, .slice p5 l5 k5, .slice p6 l6 k6] (.agg #[.bool n0, .slice p1 l1 k1, .slice p2 l2 k2]) (.agg #[.bool n1, .slice p3 l3 k3, .slice p4 l4 k4]) (.agg #[.bool n2, .slice p5 l5 k5, .slice p6 l6 k6]) n0 a b n1 c d n2 f g) w2) := Lib.hid (by with_reducible first | exact OK2.out.kp _ _ T1.out hb2 | exact OK2.out.kp _ _ (OK2.out.al (.cells #[.bool false, .slice none 0 0, .slice none 0 0] 25) T1.out) hb2); have hs2 : wc.heap.size ≤ w2.heap.size := Nat.le_trans hs1 (by first | exact hb2.size | (have := hb2.size; simp at this; omega)); have hv1_2 : RatN w2 (.agg #[.bool sn, .slice q1 r1 s1, .slice q2 r2 s2]) ⟨sn, sN, sD⟩ 5 := (by with_reducible first | exact hv1.keep hb2 | exact (hv1.al _).keep hb2); (try have X1_2 := Lib.hid (X1_1.out.keep hb2)); (try have X2_2 : Hid (Blk w1.heap.size #[.bool false, .slice none 0 0, .slice none 0 0] w2) := Lib.hid ((Blk.new w1 #[.bool false, .slice none 0 0, .slice none 0 0] 25).keep hb2)); (try (obtain ⟨u1a, u1b, u1c⟩ := X1_2.out.three; obtain ⟨t1a, t1b, t1c⟩ := X1_2.out.free3)); (try (obtain ⟨u2a, u2b, u2c⟩ := X2_2.out.three; obtain ⟨t2a, t2b, t2c⟩ := X2_2.out.free3)))))
      all_goals
        go_wp2_with fail
        go_meet
        refine ⟨_, q3, r3, s3, q4, r4, s4, rfl, Lib.hid ?_⟩
        first
          | exact Ext.new (q := ⟨xn, xN, xD⟩) OK2.out T2.out hv2 (by omega)
          | exact Ext.old (q := ⟨xn, xN, xD⟩) OK2.out T2.out X1_2.out hv2 (by omega)
          | exact Ext.old (q := ⟨xn, xN, xD⟩) OK2.out T2.out X2_2.out hv2 (by omega)
    case rest =>
      obtain ⟨X1, y1, e1, o1, z1, u1, i1, rfl, hst⟩ := hcut
      have T0 := Lib.hid hst.out
      have OK1 : Hid (Ok (P3 w #[.bool n0, .slice p1 l1 k1, .slice p2 l2 k2] #[.bool n1, .slice p3 l3 k3, .slice p4 l4 k4] #[.bool n2, .slice p5 l5 k5, .slice p6 l6 k6] (.agg #[.bool n0, .slice p1 l1 k1, .slice p2 l2 k2]) (.agg #[.bool n1, .slice p3 l3 k3, .slice p4 l4 k4]) (.agg #[.bool n2, .slice p5 l5 k5, .slice p6 l6 k6]) n0 a b n1 c d n2 f g) (w.heap.size + 3)) := Lib.hid (P3.ok w #[.bool n0, .slice p1 l1 k1, .slice p2 l2 k2] #[.bool n1, .slice p3 l3 k3, .slice p4 l4 k4] #[.bool n2, .slice p5 l5 k5, .slice p6 l6 k6] (.agg #[.bool n0, .slice p1 l1 k1, .slice p2 l2 k2]) (.agg #[.bool n1, .slice p3 l3 k3, .slice p4 l4 k4]) (.agg #[.bool n2, .slice p5 l5 k5, .slice p6 l6 k6]) n0 a b n1 c d n2 f g)
      clear hst P0 AD MX
      go_upto_region 3 with fail
      go_cut [8] (fun s wx => ∃ X2 y2 e2 o2 z2 u2 i2, s = .pointer (some ⟨X2, 0, none⟩) ∧ Hid ((Ext (Ext (P3 w #[.bool n0, .slice p1 l1 k1, .slice p2 l2 k2] #[.bool n1, .slice p3 l3 k3, .slice p4 l4 k4] #[.bool n2, .slice p5 l5 k5, .slice p6 l6 k6] (.agg #[.bool n0, .slice p1 l1 k1, .slice p2 l2 k2]) (.agg #[.bool n1, .slice p3 l3 k3, .slice p4 l4 k4]) (.agg #[.bool n2, .slice p5 l5 k5, .slice p6 l6 k6]) n0 a b n1 c d n2 f g) (w.heap.size + 3) X1 #[.bool xn, .slice y1 e1 o1, .slice z1 u1 i1] (.agg #[.bool xn, .slice y1 e1 o1, .slice z1 u1 i1]) ⟨xn, xN, xD⟩ 10) (max (w.heap.size + 3) (X1 + 1)) X2 #[.bool xn, .slice y2 e2 o2, .slice z2 u2 i2] (.agg #[.bool xn, .slice y2 e2 o2, .slice z2 u2 i2]) ⟨xn, xN, xD⟩ 9) wx))
      case first =>
        have hz0 := T0.out.base.C.1
        have hz2 := T0.out.blk.1
        have hz1 : (max (w.heap.size + 3) (X1 + 1)) ≤ wc.heap.size := by omega
        have OK3 : Hid (Ok (Ext (P3 w #[.bool n0, .slice p1 l1 k1, .slice p2 l2 k2] #[.bool n1, .slice p3 l3 k3, .slice p4 l4 k4] #[.bool n2, .slice p5 l5 k5, .slice p6 l6 k6] (.agg #[.bool n0, .slice p1 l1 k1, .slice p2 l2 k2]) (.agg #[.bool n1, .slice p3 l3 k3, .slice p4 l4 k4]) (.agg #[.bool n2, .slice p5 l5 k5, .slice p6 l6 k6]) n0 a b n1 c d n2 f g) (w.heap.size + 3) X1 #[.bool xn, .slice y1 e1 o1, .slice z1 u1 i1] (.agg #[.bool xn, .slice y1 e1 o1, .slice z1 u1 i1]) ⟨xn, xN, xD⟩ 10) (max (w.heap.size + 3) (X1 + 1))) := Lib.hid (Ext.ok OK1.out X1 #[.bool xn, .slice y1 e1 o1, .slice z1 u1 i1] (.agg #[.bool xn, .slice y1 e1 o1, .slice z1 u1 i1]) ⟨xn, xN, xD⟩ 10)
        have TD : Hid ((Ext (P3 w #[.bool n0, .slice p1 l1 k1, .slice p2 l2 k2] #[.bool n1, .slice p3 l3 k3, .slice p4 l4 k4] #[.bool n2, .slice p5 l5 k5, .slice p6 l6 k6] (.agg #[.bool n0, .slice p1 l1 k1, .slice p2 l2 k2]) (.agg #[.bool n1, .slice p3 l3 k3, .slice p4 l4 k4]) (.agg #[.bool n2, .slice p5 l5 k5, .slice p6 l6 k6]) n0 a b n1 c d n2 f g) (w.heap.size + 3) X1 #[.bool xn, .slice y1 e1 o1, .slice z1 u1 i1] (.agg #[.bool xn, .slice y1 e1 o1, .slice z1 u1 i1]) ⟨xn, xN, xD⟩ 10) wc.drew) := Lib.hid (OK3.out.dr T0.out)
        have TA : Hid ((Ext (P3 w #[.bool n0, .slice p1 l1 k1, .slice p2 l2 k2] #[.bool n1, .slice p3 l3 k3, .slice p4 l4 k4] #[.bool n2, .slice p5 l5 k5, .slice p6 l6 k6] (.agg #[.bool n0, .slice p1 l1 k1, .slice p2 l2 k2]) (.agg #[.bool n1, .slice p3 l3 k3, .slice p4 l4 k4]) (.agg #[.bool n2, .slice p5 l5 k5, .slice p6 l6 k6]) n0 a b n1 c d n2 f g) (w.heap.size + 3) X1 #[.bool xn, .slice y1 e1 o1, .slice z1 u1 i1] (.agg #[.bool xn, .slice y1 e1 o1, .slice z1 u1 i1]) ⟨xn, xN, xD⟩ 10) (wc.alloc (.cells #[.bool false, .slice none 0 0, .slice none 0 0] 25)).drew) := Lib.hid (OK3.out.dr (OK3.out.al _ T0.out))
        have NA : Hid (Blk wc.heap.size #[.bool false, .slice none 0 0, .slice none 0 0] (wc.alloc (.cells #[.bool false, .slice none 0 0, .slice none 0 0] 25)).drew) := Lib.hid (Blk.new wc #[.bool false, .slice none 0 0, .slice none 0 0] 25).drew
        have hs0 : wc.heap.size ≤ wc.heap.size := Nat.le_refl _
        go_region_held3 (fun w' => w'.cell? ⟨w.heap.size, 0, none⟩ = some (.bool n0) ∧ w'.cell? ⟨w.heap.size, 1, none⟩ = some (.slice p1 l1 k1) ∧ w'.cell? ⟨w.heap.size, 2, none⟩ = some (.slice p2 l2 k2) ∧ w'.cell? ⟨w.heap.size + 1, 0, none⟩ = some (.bool n1) ∧ w'.cell? ⟨w.heap.size + 1, 1, none⟩ = some (.slice p3 l3 k3) ∧ w'.cell? ⟨w.heap.size + 1, 2, none⟩ = some (.slice p4 l4 k4) ∧ w'.cell? ⟨w.heap.size + 2, 0, none⟩ = some (.bool n2) ∧ w'.cell? ⟨w.heap.size + 2, 1, none⟩ = some (.slice p5 l5 k5) ∧ w'.cell? ⟨w.heap.size + 2, 2, none⟩ = some (.slice p6 l6 k6))
          (first | exact TD.out.base.cells | exact TA.out.base.cells | exact T1.out.base.cells | exact (OK3.out.al (.cells #[.bool false, .slice none 0 0, .slice none 0 0] 25) T1.out).base.cells | exact T2.out.base.cells | exact (OK3.out.al (.cells #[.bool false, .slice none 0 0, .slice none 0 0] 25) T2.out).base.cells | exact T3.out.base.cells | exact (OK3.out.al (.cells #[.bool false, .slice none 0 0, .slice none 0 0] 25) T3.out).base.cells | exact (OK3.out.pt _ _ _ _ _ T3.out (by omega) X1_3.out.noLimb).base.cells | exact (OK3.out.pt _ _ _ _ _ T3.out (by omega) X2_3.out.noLimb).base.cells | exact (OK3.out.pt _ _ _ _ _ T3.out (by omega) X3_3.out.noLimb).base.cells | exact (OK3.out.al (.cells #[.bool xn, .slice q5 r5 s5, .slice q6 r6 s6] 25) T3.out).base.cells)
          (first
            | (go_at_call 34; ((with_reducible refine (MM.out _ _ _ (by with_reducible first | exact TD.out.base.va | exact TA.out.base.va) (by with_reducible first | exact TD.out.base.vc | exact TA.out.base.vc)).mono ?_); rintro e w1 ⟨q1, r1, s1, q2, r2, s2, rfl, hv1, hb1⟩; have T1 : Hid ((Ext (P3 w #[.bool n0, .slice p1 l1 k1, .slice p2 l2 k2] #[.bool n1, .slice p3 l3 k3, .slice p4 l4 k4] #[.bool n2, .slice p5 l5 k5, .slice p6 l6 k6] (.agg #[.bool n0, .slice p1 l1 k1, .slice p2 l2 k2]) (.agg #[.bool n1, .slice p3 l3 k3, .slice p4 l4 k4]) (.agg #[.bool n2, .slice p5 l5 k5, .slice p6 l6 k6]) n0 a b n1 c d n2 f g) (w.heap.size + 3) X1 #[.bool xn, .slice y1 e1 o1, .slice z1 u1 i1] (.agg #[.bool xn, .slice y1 e1 o1, .slice z1 u1 i1]) ⟨xn, xN, xD⟩ 10) w1) := Lib.hid (by with_reducible first | exact OK3.out.kp _ _ TD.out hb1 | exact OK3.out.kp _ _ TA.out hb1); have hs1 : wc.heap.size ≤ w1.heap.size := Nat.le_trans hs0 (by first | exact hb1.size | (have := hb1.size; simp at this; omega)); (try have X1_1 : Hid (Blk wc.heap.size #[.bool false, .slice none 0 0, .slice none 0 0] w1) := Lib.hid (NA.out.keep hb1))))
            | (go_at_call 34; ((with_reducible refine (MN.out _ _ _ (by with_reducible first | exact T1.out.base.vb | exact (OK3.out.al (.cells #[.bool false, .slice none 0 0, .slice none 0 0] 25) T1.out).base.vb) (by with_reducible first | exact T1.out.base.vc | exact (OK3.out.al (.cells #[.bool false, .slice none 0 0, .slice none 0 0] 25) T1.out).base.vc)).mono ?_); rintro e w2 ⟨q3, r3, s3, q4, r4, s4, rfl, hv2, hb2⟩; have T2 : Hid ((Ext (P3 w #[.bool n0, .slice p1 l1 k1, .slice p2 l2 k2] #[.bool n1, .slice p3 l3 k3, .slice p4 l4 k4] #[.bool n2, .slice p5 l5 k5, .slice p6 l6 k6] (.agg #[.bool n0, .slice p1 l1 k1, .slice p2 l2 k2]) (.agg #[.bool n1, .slice p3 l3 k3, .slice p4 l4 k4]) (.agg #[.bool n2, .slice p5 l5 k5, .slice p6 l6 k6]) n0 a b n1 c d n2 f g) (w.heap.size + 3) X1 #[.bool xn, .slice y1 e1 o1, .slice z1 u1 i1] (.agg #[.bool xn, .slice y1 e1 o1, .slice z1 u1 i1]) ⟨xn, xN, xD⟩ 10) w2) := Lib.hid (by with_reducible first | exact OK3.out.kp _ _ T1.out hb2 | exact OK3.out.kp _ _ (OK3.out.al (.cells #[.bool false, .slice none 0 0, .slice none 0 0] 25) T1.out) hb2); have hs2 : wc.heap.size ≤ w2.heap.size := Nat.le_trans hs1 (by first | exact hb2.size | (have := hb2.size; simp at this; omega)); have hv1_2 : RatN w2 (.agg #[.bool mn, .slice q1 r1 s1, .slice q2 r2 s2]) ⟨mn, mN, mD⟩ 4 := (by with_reducible first | exact hv1.keep hb2 | exact (hv1.al _).keep hb2); (try have X1_2 := Lib.hid (X1_1.out.keep hb2)); (try have X2_2 : Hid (Blk w1.heap.size #[.bool false, .slice none 0 0, .slice none 0 0] w2) := Lib.hid ((Blk.new w1 #[.bool false, .slice none 0 0, .slice none 0 0] 25).keep hb2))))
            | (go_at_call 16; ((with_reducible refine (AY.out _ _ _ (by with_reducible first | exact hv1_2 | exact hv1_2.al _) (by with_reducible first | exact hv2 | exact hv2.al _)).mono ?_); rintro e w3 ⟨q5, r5, s5, q6, r6, s6, rfl, hv3, hb3⟩; have T3 : Hid ((Ext (P3 w #[.bool n0, .slice p1 l1 k1, .slice p2 l2 k2] #[.bool n1, .slice p3 l3 k3, .slice p4 l4 k4] #[.bool n2, .slice p5 l5 k5, .slice p6 l6 k6] (.agg #[.bool n0, .slice p1 l1 k1, .slice p2 l2 k2]) (.agg #[.bool n1, .slice p3 l3 k3, .slice p4 l4 k4]) (.agg #[.bool n2, .slice p5 l5 k5, .slice p6 l6 k6]) n0 a b n1 c d n2 f g) (w.heap.size + 3) X1 #[.bool xn, .slice y1 e1 o1, .slice z1 u1 i1] (.agg #[.bool xn, .slice y1 e1 o1, .slice z1 u1 i1]) ⟨xn, xN, xD⟩ 10) w3) := Lib.hid (by with_reducible first | exact OK3.out.kp _ _ T2.out hb3 | exact OK3.out.kp _ _ (OK3.out.al (.cells #[.bool false, .slice none 0 0, .slice none 0 0] 25) T2.out) hb3); have hs3 : wc.heap.size ≤ w3.heap.size := Nat.le_trans hs2 (by first | exact hb3.size | (have := hb3.size; simp at this; omega)); have hv1_3 : RatN w3 (.agg #[.bool mn, .slice q1 r1 s1, .slice q2 r2 s2]) ⟨mn, mN, mD⟩ 4 := (by with_reducible first | exact hv1_2.keep hb3 | exact (hv1_2.al _).keep hb3); have hv2_3 : RatN w3 (.agg #[.bool tn, .slice q3 r3 s3, .slice q4 r4 s4]) ⟨tn, tN, tD⟩ 4 := (by with_reducible first | exact hv2.keep hb3 | exact (hv2.al _).keep hb3); (try have X1_3 := Lib.hid (X1_2.out.keep hb3)); (try have X2_3 := Lib.hid (X2_2.out.keep hb3)); (try have X3_3 : Hid (Blk w2.heap.size #[.bool false, .slice none 0 0, .slice none 0 0] w3) := Lib.hid ((Blk.new w2 #[.bool false, .slice none 0 0, .slice none 0 0] 25).keep hb3)); (try (obtain ⟨u1a, u1b, u1c⟩ := X1_3.out.three; obtain ⟨t1a, t1b, t1c⟩ := X1_3.out.free3)); (try (obtain ⟨u2a, u2b, u2c⟩ := X2_3.out.three; obtain ⟨t2a, t2b, t2c⟩ := X2_3.out.free3)); (try (obtain ⟨u3a, u3b, u3c⟩ := X3_3.out.three; obtain ⟨t3a, t3b, t3c⟩ := X3_3.out.free3)))))
        all_goals
          go_wp2_with fail
          go_meet
          refine ⟨_, q5, r5, s5, q6, r6, s6, rfl, Lib.hid ?_⟩
          first
            | exact Ext.new (q := ⟨xn, xN, xD⟩) OK3.out T3.out hv3 (by omega)
            | exact Ext.old (q := ⟨xn, xN, xD⟩) OK3.out T3.out X1_3.out hv3 (by omega)
            | exact Ext.old (q := ⟨xn, xN, xD⟩) OK3.out T3.out X2_3.out hv3 (by omega)
            | exact Ext.old (q := ⟨xn, xN, xD⟩) OK3.out T3.out X3_3.out hv3 (by omega)
      case rest =>
        obtain ⟨X2, y2, e2, o2, z2, u2, i2, rfl, hst⟩ := hcut
        clear T0
        have T0 := Lib.hid hst.out
        have OK2 : Hid (Ok (Ext (P3 w #[.bool n0, .slice p1 l1 k1, .slice p2 l2 k2] #[.bool n1, .slice p3 l3 k3, .slice p4 l4 k4] #[.bool n2, .slice p5 l5 k5, .slice p6 l6 k6] (.agg #[.bool n0, .slice p1 l1 k1, .slice p2 l2 k2]) (.agg #[.bool n1, .slice p3 l3 k3, .slice p4 l4 k4]) (.agg #[.bool n2, .slice p5 l5 k5, .slice p6 l6 k6]) n0 a b n1 c d n2 f g) (w.heap.size + 3) X1 #[.bool xn, .slice y1 e1 o1, .slice z1 u1 i1] (.agg #[.bool xn, .slice y1 e1 o1, .slice z1 u1 i1]) ⟨xn, xN, xD⟩ 10) (max (w.heap.size + 3) (X1 + 1))) := Lib.hid (Ext.ok OK1.out X1 #[.bool xn, .slice y1 e1 o1, .slice z1 u1 i1] (.agg #[.bool xn, .slice y1 e1 o1, .slice z1 u1 i1]) ⟨xn, xN, xD⟩ 10)
        clear hst MN AY
        go_upto_region 4 with fail
        go_cut [9, 10] (fun s t wx => ∃ X3 y3 e3 o3 z3 u3 i3, s = .pointer (some ⟨X3, 0, none⟩) ∧ t = .bool ob ∧ Hid ((Ext (Ext (Ext (P3 w #[.bool n0, .slice p1 l1 k1, .slice p2 l2 k2] #[.bool n1, .slice p3 l3 k3, .slice p4 l4 k4] #[.bool n2, .slice p5 l5 k5, .slice p6 l6 k6] (.agg #[.bool n0, .slice p1 l1 k1, .slice p2 l2 k2]) (.agg #[.bool n1, .slice p3 l3 k3, .slice p4 l4 k4]) (.agg #[.bool n2, .slice p5 l5 k5, .slice p6 l6 k6]) n0 a b n1 c d n2 f g) (w.heap.size + 3) X1 #[.bool xn, .slice y1 e1 o1, .slice z1 u1 i1] (.agg #[.bool xn, .slice y1 e1 o1, .slice z1 u1 i1]) ⟨xn, xN, xD⟩ 10) (max (w.heap.size + 3) (X1 + 1)) X2 #[.bool xn, .slice y2 e2 o2, .slice z2 u2 i2] (.agg #[.bool xn, .slice y2 e2 o2, .slice z2 u2 i2]) ⟨xn, xN, xD⟩ 9) (max (max (w.heap.size + 3) (X1 + 1)) (X2 + 1)) X3 #[.bool dn, .slice y3 e3 o3, .slice z3 u3 i3] (.agg #[.bool dn, .slice y3 e3 o3, .slice z3 u3 i3]) ⟨dn, dN, dD⟩ 8) wx))
        case first =>
          have hz0 := T0.out.base.base.C.1
          have hz2 := T0.out.base.blk.1
          have hz3 := T0.out.blk.1
          have hz1 : (max (max (w.heap.size + 3) (X1 + 1)) (X2 + 1)) ≤ wc.heap.size := by omega
          have OK4 : Hid (Ok (Ext (Ext (P3 w #[.bool n0, .slice p1 l1 k1, .slice p2 l2 k2] #[.bool n1, .slice p3 l3 k3, .slice p4 l4 k4] #[.bool n2, .slice p5 l5 k5, .slice p6 l6 k6] (.agg #[.bool n0, .slice p1 l1 k1, .slice p2 l2 k2]) (.agg #[.bool n1, .slice p3 l3 k3, .slice p4 l4 k4]) (.agg #[.bool n2, .slice p5 l5 k5, .slice p6 l6 k6]) n0 a b n1 c d n2 f g) (w.heap.size + 3) X1 #[.bool xn, .slice y1 e1 o1, .slice z1 u1 i1] (.agg #[.bool xn, .slice y1 e1 o1, .slice z1 u1 i1]) ⟨xn, xN, xD⟩ 10) (max (w.heap.size + 3) (X1 + 1)) X2 #[.bool xn, .slice y2 e2 o2, .slice z2 u2 i2] (.agg #[.bool xn, .slice y2 e2 o2, .slice z2 u2 i2]) ⟨xn, xN, xD⟩ 9) (max (max (w.heap.size + 3) (X1 + 1)) (X2 + 1))) := Lib.hid (Ext.ok OK2.out X2 #[.bool xn, .slice y2 e2 o2, .slice z2 u2 i2] (.agg #[.bool xn, .slice y2 e2 o2, .slice z2 u2 i2]) ⟨xn, xN, xD⟩ 9)
          have TD : Hid ((Ext (Ext (P3 w #[.bool n0, .slice p1 l1 k1, .slice p2 l2 k2] #[.bool n1, .slice p3 l3 k3, .slice p4 l4 k4] #[.bool n2, .slice p5 l5 k5, .slice p6 l6 k6] (.agg #[.bool n0, .slice p1 l1 k1, .slice p2 l2 k2]) (.agg #[.bool n1, .slice p3 l3 k3, .slice p4 l4 k4]) (.agg #[.bool n2, .slice p5 l5 k5, .slice p6 l6 k6]) n0 a b n1 c d n2 f g) (w.heap.size + 3) X1 #[.bool xn, .slice y1 e1 o1, .slice z1 u1 i1] (.agg #[.bool xn, .slice y1 e1 o1, .slice z1 u1 i1]) ⟨xn, xN, xD⟩ 10) (max (w.heap.size + 3) (X1 + 1)) X2 #[.bool xn, .slice y2 e2 o2, .slice z2 u2 i2] (.agg #[.bool xn, .slice y2 e2 o2, .slice z2 u2 i2]) ⟨xn, xN, xD⟩ 9) wc.drew) := Lib.hid (OK4.out.dr T0.out)
          have TA : Hid ((Ext (Ext (P3 w #[.bool n0, .slice p1 l1 k1, .slice p2 l2 k2] #[.bool n1, .slice p3 l3 k3, .slice p4 l4 k4] #[.bool n2, .slice p5 l5 k5, .slice p6 l6 k6] (.agg #[.bool n0, .slice p1 l1 k1, .slice p2 l2 k2]) (.agg #[.bool n1, .slice p3 l3 k3, .slice p4 l4 k4]) (.agg #[.bool n2, .slice p5 l5 k5, .slice p6 l6 k6]) n0 a b n1 c d n2 f g) (w.heap.size + 3) X1 #[.bool xn, .slice y1 e1 o1, .slice z1 u1 i1] (.agg #[.bool xn, .slice y1 e1 o1, .slice z1 u1 i1]) ⟨xn, xN, xD⟩ 10) (max (w.heap.size + 3) (X1 + 1)) X2 #[.bool xn, .slice y2 e2 o2, .slice z2 u2 i2] (.agg #[.bool xn, .slice y2 e2 o2, .slice z2 u2 i2]) ⟨xn, xN, xD⟩ 9) (wc.alloc (.cells #[.bool false, .slice none 0 0, .slice none 0 0] 25)).drew) := Lib.hid (OK4.out.dr (OK4.out.al _ T0.out))
          have NA : Hid (Blk wc.heap.size #[.bool false, .slice none 0 0, .slice none 0 0] (wc.alloc (.cells #[.bool false, .slice none 0 0, .slice none 0 0] 25)).drew) := Lib.hid (Blk.new wc #[.bool false, .slice none 0 0, .slice none 0 0] 25).drew
          have hs0 : wc.heap.size ≤ wc.heap.size := Nat.le_refl _
          go_region_held3 (fun w' => w'.cell? ⟨w.heap.size, 0, none⟩ = some (.bool n0) ∧ w'.cell? ⟨w.heap.size, 1, none⟩ = some (.slice p1 l1 k1) ∧ w'.cell? ⟨w.heap.size, 2, none⟩ = some (.slice p2 l2 k2) ∧ w'.cell? ⟨w.heap.size + 1, 0, none⟩ = some (.bool n1) ∧ w'.cell? ⟨w.heap.size + 1, 1, none⟩ = some (.slice p3 l3 k3) ∧ w'.cell? ⟨w.heap.size + 1, 2, none⟩ = some (.slice p4 l4 k4) ∧ w'.cell? ⟨w.heap.size + 2, 0, none⟩ = some (.bool n2) ∧ w'.cell? ⟨w.heap.size + 2, 1, none⟩ = some (.slice p5 l5 k5) ∧ w'.cell? ⟨w.heap.size + 2, 2, none⟩ = some (.slice p6 l6 k6))
            (first | exact TD.out.base.base.cells | exact TA.out.base.base.cells | exact T1.out.base.base.cells | exact (OK4.out.al (.cells #[.bool false, .slice none 0 0, .slice none 0 0] 25) T1.out).base.base.cells | exact T2.out.base.base.cells | exact (OK4.out.al (.cells #[.bool false, .slice none 0 0, .slice none 0 0] 25) T2.out).base.base.cells | exact (OK4.out.pt _ _ _ _ _ T2.out (by omega) X1_2.out.noLimb).base.base.cells | exact (OK4.out.pt _ _ _ _ _ T2.out (by omega) X2_2.out.noLimb).base.base.cells | exact (OK4.out.al (.cells #[.bool dn, .slice q3 r3 s3, .slice q4 r4 s4] 25) T2.out).base.base.cells)
            (first
              | (go_at_call 34; ((with_reducible refine (MM.out _ _ _ (by with_reducible first | exact TD.out.base.base.va | exact TA.out.base.base.va) (by with_reducible first | exact TD.out.base.base.vc | exact TA.out.base.base.vc)).mono ?_); rintro e w1 ⟨q1, r1, s1, q2, r2, s2, rfl, hv1, hb1⟩; have T1 : Hid ((Ext (Ext (P3 w #[.bool n0, .slice p1 l1 k1, .slice p2 l2 k2] #[.bool n1, .slice p3 l3 k3, .slice p4 l4 k4] #[.bool n2, .slice p5 l5 k5, .slice p6 l6 k6] (.agg #[.bool n0, .slice p1 l1 k1, .slice p2 l2 k2]) (.agg #[.bool n1, .slice p3 l3 k3, .slice p4 l4 k4]) (.agg #[.bool n2, .slice p5 l5 k5, .slice p6 l6 k6]) n0 a b n1 c d n2 f g) (w.heap.size + 3) X1 #[.bool xn, .slice y1 e1 o1, .slice z1 u1 i1] (.agg #[.bool xn, .slice y1 e1 o1, .slice z1 u1 i1]) ⟨xn, xN, xD⟩ 10) (max (w.heap.size + 3) (X1 + 1)) X2 #[.bool xn, .slice y2 e2 o2, .slice z2 u2 i2] (.agg #[.bool xn, .slice y2 e2 o2, .slice z2 u2 i2]) ⟨xn, xN, xD⟩ 9) w1) := Lib.hid (by with_reducible first | exact OK4.out.kp _ _ TD.out hb1 | exact OK4.out.kp _ _ TA.out hb1); have hs1 : wc.heap.size ≤ w1.heap.size := Nat.le_trans hs0 (by first | exact hb1.size | (have := hb1.size; simp at this; omega)); (try have X1_1 : Hid (Blk wc.heap.size #[.bool false, .slice none 0 0, .slice none 0 0] w1) := Lib.hid (NA.out.keep hb1))))
              | (go_at_call 33; ((with_reducible refine (DV.out _ _ _ (by with_reducible first | exact hv1 | exact hv1.al _) (by with_reducible first | exact T1.out.base.base.vc | exact (OK4.out.al (.cells #[.bool false, .slice none 0 0, .slice none 0 0] 25) T1.out).base.base.vc)).mono ?_); rintro e w2 ⟨q3, r3, s3, q4, r4, s4, rfl, hv2, hb2⟩; have T2 : Hid ((Ext (Ext (P3 w #[.bool n0, .slice p1 l1 k1, .slice p2 l2 k2] #[.bool n1, .slice p3 l3 k3, .slice p4 l4 k4] #[.bool n2, .slice p5 l5 k5, .slice p6 l6 k6] (.agg #[.bool n0, .slice p1 l1 k1, .slice p2 l2 k2]) (.agg #[.bool n1, .slice p3 l3 k3, .slice p4 l4 k4]) (.agg #[.bool n2, .slice p5 l5 k5, .slice p6 l6 k6]) n0 a b n1 c d n2 f g) (w.heap.size + 3) X1 #[.bool xn, .slice y1 e1 o1, .slice z1 u1 i1] (.agg #[.bool xn, .slice y1 e1 o1, .slice z1 u1 i1]) ⟨xn, xN, xD⟩ 10) (max (w.heap.size + 3) (X1 + 1)) X2 #[.bool xn, .slice y2 e2 o2, .slice z2 u2 i2] (.agg #[.bool xn, .slice y2 e2 o2, .slice z2 u2 i2]) ⟨xn, xN, xD⟩ 9) w2) := Lib.hid (by with_reducible first | exact OK4.out.kp _ _ T1.out hb2 | exact OK4.out.kp _ _ (OK4.out.al (.cells #[.bool false, .slice none 0 0, .slice none 0 0] 25) T1.out) hb2); have hs2 : wc.heap.size ≤ w2.heap.size := Nat.le_trans hs1 (by first | exact hb2.size | (have := hb2.size; simp at this; omega)); have hv1_2 : RatN w2 (.agg #[.bool mn, .slice q1 r1 s1, .slice q2 r2 s2]) ⟨mn, mN, mD⟩ 4 := (by with_reducible first | exact hv1.keep hb2 | exact (hv1.al _).keep hb2); (try have X1_2 := Lib.hid (X1_1.out.keep hb2)); (try have X2_2 : Hid (Blk w1.heap.size #[.bool false, .slice none 0 0, .slice none 0 0] w2) := Lib.hid ((Blk.new w1 #[.bool false, .slice none 0 0, .slice none 0 0] 25).keep hb2)); (try (obtain ⟨u1a, u1b, u1c⟩ := X1_2.out.three; obtain ⟨t1a, t1b, t1c⟩ := X1_2.out.free3)); (try (obtain ⟨u2a, u2b, u2c⟩ := X2_2.out.three; obtain ⟨t2a, t2b, t2c⟩ := X2_2.out.free3)))))
          all_goals
            go_wp2_with fail
            go_meet
            refine ⟨_, q3, r3, s3, q4, r4, s4, rfl, rfl, Lib.hid ?_⟩
            first
              | exact Ext.new (q := ⟨dn, dN, dD⟩) OK4.out T2.out hv2 (by omega)
              | exact Ext.old (q := ⟨dn, dN, dD⟩) OK4.out T2.out X1_2.out hv2 (by omega)
              | exact Ext.old (q := ⟨dn, dN, dD⟩) OK4.out T2.out X2_2.out hv2 (by omega)
        case rest =>
          obtain ⟨X3, y3, e3, o3, z3, u3, i3, rfl, rfl, hst⟩ := hcut
          clear T0
          have T0 := Lib.hid hst.out
          have OK3 : Hid (Ok (Ext (Ext (P3 w #[.bool n0, .slice p1 l1 k1, .slice p2 l2 k2] #[.bool n1, .slice p3 l3 k3, .slice p4 l4 k4] #[.bool n2, .slice p5 l5 k5, .slice p6 l6 k6] (.agg #[.bool n0, .slice p1 l1 k1, .slice p2 l2 k2]) (.agg #[.bool n1, .slice p3 l3 k3, .slice p4 l4 k4]) (.agg #[.bool n2, .slice p5 l5 k5, .slice p6 l6 k6]) n0 a b n1 c d n2 f g) (w.heap.size + 3) X1 #[.bool xn, .slice y1 e1 o1, .slice z1 u1 i1] (.agg #[.bool xn, .slice y1 e1 o1, .slice z1 u1 i1]) ⟨xn, xN, xD⟩ 10) (max (w.heap.size + 3) (X1 + 1)) X2 #[.bool xn, .slice y2 e2 o2, .slice z2 u2 i2] (.agg #[.bool xn, .slice y2 e2 o2, .slice z2 u2 i2]) ⟨xn, xN, xD⟩ 9) (max (max (w.heap.size + 3) (X1 + 1)) (X2 + 1))) := Lib.hid (Ext.ok OK2.out X2 #[.bool xn, .slice y2 e2 o2, .slice z2 u2 i2] (.agg #[.bool xn, .slice y2 e2 o2, .slice z2 u2 i2]) ⟨xn, xN, xD⟩ 9)
          have OK4 : Hid (Ok (Ext (Ext (Ext (P3 w #[.bool n0, .slice p1 l1 k1, .slice p2 l2 k2] #[.bool n1, .slice p3 l3 k3, .slice p4 l4 k4] #[.bool n2, .slice p5 l5 k5, .slice p6 l6 k6] (.agg #[.bool n0, .slice p1 l1 k1, .slice p2 l2 k2]) (.agg #[.bool n1, .slice p3 l3 k3, .slice p4 l4 k4]) (.agg #[.bool n2, .slice p5 l5 k5, .slice p6 l6 k6]) n0 a b n1 c d n2 f g) (w.heap.size + 3) X1 #[.bool xn, .slice y1 e1 o1, .slice z1 u1 i1] (.agg #[.bool xn, .slice y1 e1 o1, .slice z1 u1 i1]) ⟨xn, xN, xD⟩ 10) (max (w.heap.size + 3) (X1 + 1)) X2 #[.bool xn, .slice y2 e2 o2, .slice z2 u2 i2] (.agg #[.bool xn, .slice y2 e2 o2, .slice z2 u2 i2]) ⟨xn, xN, xD⟩ 9) (max (max (w.heap.size + 3) (X1 + 1)) (X2 + 1)) X3 #[.bool dn, .slice y3 e3 o3, .slice z3 u3 i3] (.agg #[.bool dn, .slice y3 e3 o3, .slice z3 u3 i3]) ⟨dn, dN, dD⟩ 8) (max (max (max (w.heap.size + 3) (X1 + 1)) (X2 + 1)) (X3 + 1))) := Lib.hid (Ext.ok OK3.out X3 #[.bool dn, .slice y3 e3 o3, .slice z3 u3 i3] (.agg #[.bool dn, .slice y3 e3 o3, .slice z3 u3 i3]) ⟨dn, dN, dD⟩ 8)
          clear hst MM DV OK1 OK2 OK3
          obtain ⟨cc0, cc1, cc2, cc3, cc4, cc5, cc6, cc7, cc8⟩ := T0.out.base.base.base.cells; obtain ⟨cc9, cc10, cc11⟩ := T0.out.base.base.blk.three; obtain ⟨cc12, cc13, cc14⟩ := T0.out.base.blk.three; obtain ⟨cc15, cc16, cc17⟩ := T0.out.blk.three
          rcases HZ.out with ⟨hz, ho⟩ | ⟨hz, ho, hq⟩
          · subst hz
            subst ho
            clear HZ CQ
            go_wp2_with (first
              | (go_at_call 36; ((with_reducible refine (CZ.out _ _ T0.out.base.base.base.vc).mono ?_); rintro e w1 ⟨rfl, hb1⟩; have T1 : Hid ((Ext (Ext (Ext (P3 w #[.bool n0, .slice p1 l1 k1, .slice p2 l2 k2] #[.bool n1, .slice p3 l3 k3, .slice p4 l4 k4] #[.bool n2, .slice p5 l5 k5, .slice p6 l6 k6] (.agg #[.bool n0, .slice p1 l1 k1, .slice p2 l2 k2]) (.agg #[.bool n1, .slice p3 l3 k3, .slice p4 l4 k4]) (.agg #[.bool n2, .slice p5 l5 k5, .slice p6 l6 k6]) n0 a b n1 c d n2 f g) (w.heap.size + 3) X1 #[.bool xn, .slice y1 e1 o1, .slice z1 u1 i1] (.agg #[.bool xn, .slice y1 e1 o1, .slice z1 u1 i1]) ⟨xn, xN, xD⟩ 10) (max (w.heap.size + 3) (X1 + 1)) X2 #[.bool xn, .slice y2 e2 o2, .slice z2 u2 i2] (.agg #[.bool xn, .slice y2 e2 o2, .slice z2 u2 i2]) ⟨xn, xN, xD⟩ 9) (max (max (w.heap.size + 3) (X1 + 1)) (X2 + 1)) X3 #[.bool dn, .slice y3 e3 o3, .slice z3 u3 i3] (.agg #[.bool dn, .slice y3 e3 o3, .slice z3 u3 i3]) ⟨dn, dN, dD⟩ 8) w1) := Lib.hid (OK4.out.kp _ _ T0.out hb1); obtain ⟨cd0, cd1, cd2, cd3, cd4, cd5, cd6, cd7, cd8⟩ := T1.out.base.base.base.cells; obtain ⟨cd9, cd10, cd11⟩ := T1.out.base.base.blk.three; obtain ⟨cd12, cd13, cd14⟩ := T1.out.base.blk.three; obtain ⟨cd15, cd16, cd17⟩ := T1.out.blk.three))
              | (go_at_call 14; ((with_reducible refine (rawake_r _).mono ?_); rintro e w2 ⟨rfl, hb2⟩; have T2 : Hid ((Ext (Ext (Ext (P3 w #[.bool n0, .slice p1 l1 k1, .slice p2 l2 k2] #[.bool n1, .slice p3 l3 k3, .slice p4 l4 k4] #[.bool n2, .slice p5 l5 k5, .slice p6 l6 k6] (.agg #[.bool n0, .slice p1 l1 k1, .slice p2 l2 k2]) (.agg #[.bool n1, .slice p3 l3 k3, .slice p4 l4 k4]) (.agg #[.bool n2, .slice p5 l5 k5, .slice p6 l6 k6]) n0 a b n1 c d n2 f g) (w.heap.size + 3) X1 #[.bool xn, .slice y1 e1 o1, .slice z1 u1 i1] (.agg #[.bool xn, .slice y1 e1 o1, .slice z1 u1 i1]) ⟨xn, xN, xD⟩ 10) (max (w.heap.size + 3) (X1 + 1)) X2 #[.bool xn, .slice y2 e2 o2, .slice z2 u2 i2] (.agg #[.bool xn, .slice y2 e2 o2, .slice z2 u2 i2]) ⟨xn, xN, xD⟩ 9) (max (max (w.heap.size + 3) (X1 + 1)) (X2 + 1)) X3 #[.bool dn, .slice y3 e3 o3, .slice z3 u3 i3] (.agg #[.bool dn, .slice y3 e3 o3, .slice z3 u3 i3]) ⟨dn, dN, dD⟩ 8) w2) := Lib.hid (OK4.out.kp _ _ T1.out hb2); obtain ⟨ce0, ce1, ce2, ce3, ce4, ce5, ce6, ce7, ce8⟩ := T2.out.base.base.base.cells; obtain ⟨ce9, ce10, ce11⟩ := T2.out.base.base.blk.three; obtain ⟨ce12, ce13, ce14⟩ := T2.out.base.blk.three; obtain ⟨ce15, ce16, ce17⟩ := T2.out.blk.three))
              | (go_at_call 24; ((with_reducible refine (EQ.out _ _ _ T2.out.base.base.val T2.out.base.val).mono ?_); rintro e w3 ⟨rfl, hb3⟩; have T3 : Hid ((Ext (Ext (Ext (P3 w #[.bool n0, .slice p1 l1 k1, .slice p2 l2 k2] #[.bool n1, .slice p3 l3 k3, .slice p4 l4 k4] #[.bool n2, .slice p5 l5 k5, .slice p6 l6 k6] (.agg #[.bool n0, .slice p1 l1 k1, .slice p2 l2 k2]) (.agg #[.bool n1, .slice p3 l3 k3, .slice p4 l4 k4]) (.agg #[.bool n2, .slice p5 l5 k5, .slice p6 l6 k6]) n0 a b n1 c d n2 f g) (w.heap.size + 3) X1 #[.bool xn, .slice y1 e1 o1, .slice z1 u1 i1] (.agg #[.bool xn, .slice y1 e1 o1, .slice z1 u1 i1]) ⟨xn, xN, xD⟩ 10) (max (w.heap.size + 3) (X1 + 1)) X2 #[.bool xn, .slice y2 e2 o2, .slice z2 u2 i2] (.agg #[.bool xn, .slice y2 e2 o2, .slice z2 u2 i2]) ⟨xn, xN, xD⟩ 9) (max (max (w.heap.size + 3) (X1 + 1)) (X2 + 1)) X3 #[.bool dn, .slice y3 e3 o3, .slice z3 u3 i3] (.agg #[.bool dn, .slice y3 e3 o3, .slice z3 u3 i3]) ⟨dn, dN, dD⟩ 8) w3) := Lib.hid (OK4.out.kp _ _ T2.out hb3); obtain ⟨cf0, cf1, cf2, cf3, cf4, cf5, cf6, cf7, cf8⟩ := T3.out.base.base.base.cells; obtain ⟨cf9, cf10, cf11⟩ := T3.out.base.base.blk.three; obtain ⟨cf12, cf13, cf14⟩ := T3.out.base.blk.three; obtain ⟨cf15, cf16, cf17⟩ := T3.out.blk.three)))
            go_ret
            exact ⟨rfl, T3.out.base.base.base.below⟩
          · subst ho
            have CR := Lib.hid (CQ.out hq)
            clear HZ CQ hq
            go_wp2_with (first
              | (go_at_call 36; ((with_reducible refine (CZ.out _ _ T0.out.base.base.base.vc).mono ?_); rintro e w1 ⟨rfl, hb1⟩; have T1 : Hid ((Ext (Ext (Ext (P3 w #[.bool n0, .slice p1 l1 k1, .slice p2 l2 k2] #[.bool n1, .slice p3 l3 k3, .slice p4 l4 k4] #[.bool n2, .slice p5 l5 k5, .slice p6 l6 k6] (.agg #[.bool n0, .slice p1 l1 k1, .slice p2 l2 k2]) (.agg #[.bool n1, .slice p3 l3 k3, .slice p4 l4 k4]) (.agg #[.bool n2, .slice p5 l5 k5, .slice p6 l6 k6]) n0 a b n1 c d n2 f g) (w.heap.size + 3) X1 #[.bool xn, .slice y1 e1 o1, .slice z1 u1 i1] (.agg #[.bool xn, .slice y1 e1 o1, .slice z1 u1 i1]) ⟨xn, xN, xD⟩ 10) (max (w.heap.size + 3) (X1 + 1)) X2 #[.bool xn, .slice y2 e2 o2, .slice z2 u2 i2] (.agg #[.bool xn, .slice y2 e2 o2, .slice z2 u2 i2]) ⟨xn, xN, xD⟩ 9) (max (max (w.heap.size + 3) (X1 + 1)) (X2 + 1)) X3 #[.bool dn, .slice y3 e3 o3, .slice z3 u3 i3] (.agg #[.bool dn, .slice y3 e3 o3, .slice z3 u3 i3]) ⟨dn, dN, dD⟩ 8) w1) := Lib.hid (OK4.out.kp _ _ T0.out hb1); obtain ⟨cd0, cd1, cd2, cd3, cd4, cd5, cd6, cd7, cd8⟩ := T1.out.base.base.base.cells; obtain ⟨cd9, cd10, cd11⟩ := T1.out.base.base.blk.three; obtain ⟨cd12, cd13, cd14⟩ := T1.out.base.blk.three; obtain ⟨cd15, cd16, cd17⟩ := T1.out.blk.three))
              | (go_at_call 14; ((with_reducible refine (rawake_r _).mono ?_); rintro e w2 ⟨rfl, hb2⟩; have T2 : Hid ((Ext (Ext (Ext (P3 w #[.bool n0, .slice p1 l1 k1, .slice p2 l2 k2] #[.bool n1, .slice p3 l3 k3, .slice p4 l4 k4] #[.bool n2, .slice p5 l5 k5, .slice p6 l6 k6] (.agg #[.bool n0, .slice p1 l1 k1, .slice p2 l2 k2]) (.agg #[.bool n1, .slice p3 l3 k3, .slice p4 l4 k4]) (.agg #[.bool n2, .slice p5 l5 k5, .slice p6 l6 k6]) n0 a b n1 c d n2 f g) (w.heap.size + 3) X1 #[.bool xn, .slice y1 e1 o1, .slice z1 u1 i1] (.agg #[.bool xn, .slice y1 e1 o1, .slice z1 u1 i1]) ⟨xn, xN, xD⟩ 10) (max (w.heap.size + 3) (X1 + 1)) X2 #[.bool xn, .slice y2 e2 o2, .slice z2 u2 i2] (.agg #[.bool xn, .slice y2 e2 o2, .slice z2 u2 i2]) ⟨xn, xN, xD⟩ 9) (max (max (w.heap.size + 3) (X1 + 1)) (X2 + 1)) X3 #[.bool dn, .slice y3 e3 o3, .slice z3 u3 i3] (.agg #[.bool dn, .slice y3 e3 o3, .slice z3 u3 i3]) ⟨dn, dN, dD⟩ 8) w2) := Lib.hid (OK4.out.kp _ _ T1.out hb2); obtain ⟨ce0, ce1, ce2, ce3, ce4, ce5, ce6, ce7, ce8⟩ := T2.out.base.base.base.cells; obtain ⟨ce9, ce10, ce11⟩ := T2.out.base.base.blk.three; obtain ⟨ce12, ce13, ce14⟩ := T2.out.base.blk.three; obtain ⟨ce15, ce16, ce17⟩ := T2.out.blk.three))
              | (go_at_call 24; ((with_reducible refine (EQ.out _ _ _ T2.out.base.base.val T2.out.base.val).mono ?_); rintro e w3 ⟨rfl, hb3⟩; have T3 : Hid ((Ext (Ext (Ext (P3 w #[.bool n0, .slice p1 l1 k1, .slice p2 l2 k2] #[.bool n1, .slice p3 l3 k3, .slice p4 l4 k4] #[.bool n2, .slice p5 l5 k5, .slice p6 l6 k6] (.agg #[.bool n0, .slice p1 l1 k1, .slice p2 l2 k2]) (.agg #[.bool n1, .slice p3 l3 k3, .slice p4 l4 k4]) (.agg #[.bool n2, .slice p5 l5 k5, .slice p6 l6 k6]) n0 a b n1 c d n2 f g) (w.heap.size + 3) X1 #[.bool xn, .slice y1 e1 o1, .slice z1 u1 i1] (.agg #[.bool xn, .slice y1 e1 o1, .slice z1 u1 i1]) ⟨xn, xN, xD⟩ 10) (max (w.heap.size + 3) (X1 + 1)) X2 #[.bool xn, .slice y2 e2 o2, .slice z2 u2 i2] (.agg #[.bool xn, .slice y2 e2 o2, .slice z2 u2 i2]) ⟨xn, xN, xD⟩ 9) (max (max (w.heap.size + 3) (X1 + 1)) (X2 + 1)) X3 #[.bool dn, .slice y3 e3 o3, .slice z3 u3 i3] (.agg #[.bool dn, .slice y3 e3 o3, .slice z3 u3 i3]) ⟨dn, dN, dD⟩ 8) w3) := Lib.hid (OK4.out.kp _ _ T2.out hb3); obtain ⟨cf0, cf1, cf2, cf3, cf4, cf5, cf6, cf7, cf8⟩ := T3.out.base.base.base.cells; obtain ⟨cf9, cf10, cf11⟩ := T3.out.base.base.blk.three; obtain ⟨cf12, cf13, cf14⟩ := T3.out.base.blk.three; obtain ⟨cf15, cf16, cf17⟩ := T3.out.blk.three))
              | (go_at_call 36; ((with_reducible refine (CR.out _ _ _ T3.out.val T3.out.base.base.base.va).mono ?_); rintro e w4 ⟨rfl, hb4⟩; have T4 : Hid ((Ext (Ext (Ext (P3 w #[.bool n0, .slice p1 l1 k1, .slice p2 l2 k2] #[.bool n1, .slice p3 l3 k3, .slice p4 l4 k4] #[.bool n2, .slice p5 l5 k5, .slice p6 l6 k6] (.agg #[.bool n0, .slice p1 l1 k1, .slice p2 l2 k2]) (.agg #[.bool n1, .slice p3 l3 k3, .slice p4 l4 k4]) (.agg #[.bool n2, .slice p5 l5 k5, .slice p6 l6 k6]) n0 a b n1 c d n2 f g) (w.heap.size + 3) X1 #[.bool xn, .slice y1 e1 o1, .slice z1 u1 i1] (.agg #[.bool xn, .slice y1 e1 o1, .slice z1 u1 i1]) ⟨xn, xN, xD⟩ 10) (max (w.heap.size + 3) (X1 + 1)) X2 #[.bool xn, .slice y2 e2 o2, .slice z2 u2 i2] (.agg #[.bool xn, .slice y2 e2 o2, .slice z2 u2 i2]) ⟨xn, xN, xD⟩ 9) (max (max (w.heap.size + 3) (X1 + 1)) (X2 + 1)) X3 #[.bool dn, .slice y3 e3 o3, .slice z3 u3 i3] (.agg #[.bool dn, .slice y3 e3 o3, .slice z3 u3 i3]) ⟨dn, dN, dD⟩ 8) w4) := Lib.hid (OK4.out.kp _ _ T3.out hb4); obtain ⟨cg0, cg1, cg2, cg3, cg4, cg5, cg6, cg7, cg8⟩ := T4.out.base.base.base.cells; obtain ⟨cg9, cg10, cg11⟩ := T4.out.base.base.blk.three; obtain ⟨cg12, cg13, cg14⟩ := T4.out.base.blk.three; obtain ⟨cg15, cg16, cg17⟩ := T4.out.blk.three)))
            go_ret
            exact ⟨rfl, T4.out.base.base.base.below⟩

end Go.Proofs.YtcbocdkpdedogaaDoor
