import Derived.Test.YtlhkjkhbgebgiaaR11b
namespace Go.Proofs.Ytlhkjkhbgebgiaa
open Go.RowKit Go.Proofs.Kit Go.Proofs.Nums

/-- The sign of a difference, as the reference reads it. -/
def cmpD (d : Q) : Int := if d.n = 0 then 0 else if d.neg then -1 else 1

set_option maxRecDepth 100000 in
set_option maxHeartbeats 8000000 in
theorem rcmp_r {va vb : Value} {a b : Q} {w : World} (ha : RAt w va a) (hb : RAt w vb b) (sa : a.Sz 10000) (sb : b.Sz 10000) :
    Calls Try.prog 49 #[va, vb] w fun e w' => e = .returned (.int .i64 (cmpD (Q.addR a (Q.mk' (!b.neg) b.n b.d)))) ∧ Below w.heap.size w w' := by
  obtain ⟨p1, l1, k1, p2, l2, k2, rfl, hn, hd⟩ := ha.shape
  obtain ⟨p3, l3, k3, p4, l4, k4, rfl, hm, hc⟩ := hb.shape
  obtain ⟨o, ho⟩ : ∃ o, Q.mk' (!b.neg) b.n b.d = o := ⟨_, rfl⟩
  obtain ⟨⟨dneg, dn, dd⟩, hD⟩ : ∃ D, Q.addR a o = D := ⟨_, rfl⟩
  have so : o.Sz 10000 := by rw [← ho]; exact Q.mk'_sz sb.1 sb.2 (by omega)
  rw [ho, hD]
  have OP : Hid (∀ w', Below w.heap.size w w' → Calls Try.prog 65 #[.agg #[.bool b.neg, .slice p3 l3 k3, .slice p4 l4 k4]] w' fun e w'' => ∃ v', e = .returned v' ∧ RFr w'' v' o w'.heap.size ∧ Below w'.heap.size w' w'') := Lib.hid (fun w' h => by
    rw [← ho]; exact ropp_r (hb.keep h) ⟨Nat.le_trans sb.1 (by omega), Nat.le_trans sb.2 (by omega)⟩)
  have AD : Hid (∀ v w', Below w.heap.size w w' → RAt w' v o → Calls Try.prog 64 #[.agg #[.bool a.neg, .slice p1 l1 k1, .slice p2 l2 k2], v] w' fun e w'' => ∃ x z x2 z2, e = .returned (.agg #[.bool dneg, .slice x (bitsN dn).length z, .slice x2 (bitsN dd).length z2]) ∧ Below w'.heap.size w' w'') := Lib.hid (fun v w' h h' => by
    have := radd_r (ha.keep h) h' sa so
    rw [hD] at this
    refine this.mono ?_
    rintro e w'' ⟨v', rfl, ⟨vn, vd, rfl, g1, g2, _, _⟩, h3⟩
    obtain ⟨x, z, rfl⟩ := g1.shape
    obtain ⟨x2, z2, rfl⟩ := g2.shape
    exact ⟨_, _, _, _, rfl, h3⟩)
  obtain ⟨an, han⟩ : ∃ t, a.neg = t := ⟨_, rfl⟩
  obtain ⟨bn, hbn⟩ : ∃ t, b.neg = t := ⟨_, rfl⟩
  rw [hbn] at OP
  rw [han] at AD
  rw [han, hbn]
  have b0 := (Blk.new w #[.bool an, .slice p1 l1 k1, .slice p2 l2 k2] 77).alloc (.cells #[.bool bn, .slice p3 l3 k3, .slice p4 l4 k4] 77)
  have b1 := (Blk.new (w.alloc (.cells #[.bool an, .slice p1 l1 k1, .slice p2 l2 k2] 77)) #[.bool bn, .slice p3 l3 k3, .slice p4 l4 k4] 77)
  rw [World.size_alloc] at b1
  have hBd : Below w.heap.size w ((w.alloc (.cells #[.bool an, .slice p1 l1 k1, .slice p2 l2 k2] 77)).alloc (.cells #[.bool bn, .slice p3 l3 k3, .slice p4 l4 k4] 77)) := ((Below.refl _ _).alloc (Nat.le_refl _) _).alloc (by simp) _
  clear hn hd hm hc ha hb sa sb so ho hD han hbn
  obtain ⟨C, hC⟩ : ∃ C, cmpD ⟨dneg, dn, dd⟩ = C := ⟨_, rfl⟩
  rw [hC]
  obtain ⟨N, hN⟩ : ∃ N, (bitsN dn).length = N := ⟨_, rfl⟩
  have hcase : (N = 0 ∧ C = 0) ∨ ((((N : Nat) : Int) == 0) = false ∧ dneg = true ∧ C = -1) ∨ ((((N : Nat) : Int) == 0) = false ∧ dneg = false ∧ C = 1) := by
    subst hC hN
    unfold cmpD
    rcases Nat.eq_zero_or_pos dn with h0 | h0
    · subst h0; exact .inl ⟨rfl, rfl⟩
    · right
      have hz : (((bitsN dn).length : Int) == 0) = false := by rw [beq_eq_false_iff_ne]; have := bits_len_pos h0; omega
      simp only
      rw [if_neg (by omega)]
      cases dneg
      · exact .inr ⟨hz, rfl, rfl⟩
      · exact .inl ⟨hz, rfl, rfl⟩
  rw [hN] at AD
  clear hN hC
  go_enter Try.func49, Try.ntmps49
  go_wp2_with fail
  revert b0 b1 hBd
  generalize (w.alloc (.cells #[.bool an, .slice p1 l1 k1, .slice p2 l2 k2] 77)).alloc (.cells #[.bool bn, .slice p3 l3 k3, .slice p4 l4 k4] 77) = W
  intro b0 b1 hBd
  have B0 := Lib.hid b0.drew
  have B1 := Lib.hid b1.drew
  have B0A := Lib.hid (b0.alloc (.cells #[.bool false, .slice none 0 0, .slice none 0 0] 77)).drew
  have hBA := (hBd.alloc hBd.size (.cells #[.bool false, .slice none 0 0, .slice none 0 0] 77)).drew
  obtain ⟨ca0, ca1, ca2⟩ := (b0.alloc (.cells #[.bool false, .slice none 0 0, .slice none 0 0] 77)).drew.three
  obtain ⟨da0, da1, da2⟩ := (b1.alloc (.cells #[.bool false, .slice none 0 0, .slice none 0 0] 77)).drew.three
  have hBd := hBd.drew
  obtain ⟨c0, c1, c2⟩ := b0.drew.three
  obtain ⟨d0, d1, d2⟩ := b1.drew.three
  have NA := Lib.hid (Blk.new W #[.bool false, .slice none 0 0, .slice none 0 0] 77).drew
  clear b0 b1
  go_region_with (first
    | (go_at_call 65; ((with_reducible refine (OP.out _ (by first | exact hBd | exact hBA)).mono ?_); rintro e w3 ⟨v3, rfl, hv3, hb3⟩; have hB3 : Below w.heap.size w w3 := (by first | exact bel2' hBd hb3 | exact bel2' hBA hb3); have B03 : Hid (Blk w.heap.size #[.bool an, .slice p1 l1 k1, .slice p2 l2 k2] w3) := Lib.hid (by first | exact B0.out.keep hb3 | exact B0A.out.keep hb3); obtain ⟨e0, e1, e2⟩ := B03.out.three; obtain ⟨ea0, ea1, ea2⟩ := (B03.out.alloc (.cells #[.bool false, .slice none 0 0, .slice none 0 0] 77)).three; try have N3 := Lib.hid (NA.out.keep hb3)))
    | (go_at_call 64; ((with_reducible refine (AD.out _ _ (by first | exact hB3 | exact hB3.alloc hB3.size _) (by first | exact hv3.at | exact hv3.at.keep ((Below.refl _ _).alloc (Nat.le_refl _) _))).mono ?_); rintro e w4 ⟨x1, z1, x2, z2, rfl, hb4⟩; have hB4 : Below w.heap.size w w4 := (by first | exact bel2' hB3 hb4 | exact bel2' (hB3.alloc hB3.size _) hb4); try (first | have N4 := N3.out.keep hb4 | have N4 := (Blk.new w3 #[.bool false, .slice none 0 0, .slice none 0 0] 77).keep hb4); try obtain ⟨m0, m1, m2⟩ := N4.three; try obtain ⟨t0, t1, t2⟩ := N4.free3)))
  all_goals
    rcases hcase with ⟨h1, rfl⟩ | ⟨h1, rfl, rfl⟩ | ⟨h1, rfl, rfl⟩
    all_goals
      go_wp2_with fail
      go_ret
      refine ⟨rfl, ?_⟩
      first
        | exact below_set3 hB4 hB3.size _ _ _
        | exact below_set3 hB4 hBd.size _ _ _
        | exact hB4.alloc hB4.size _
        | exact below_set3 (hB4.alloc hB4.size _) hB4.size _ _ _

end Go.Proofs.Ytlhkjkhbgebgiaa
