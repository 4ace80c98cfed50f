import Derived.Test.YtlhkjkhbgebgiaaR10
namespace Go.Proofs.Ytlhkjkhbgebgiaa
open Go.RowKit Go.Proofs.Kit Go.Proofs.Nums

set_option maxHeartbeats 4000000 in
theorem rfrom_r {v : Value} {q : Q} {L : Nat} {w : World} (h : RatAt w v q L) (hL : L ≤ 1000) :
    Calls Try.prog 46 #[v] w fun e w' => ∃ v', e = .returned v' ∧ RFr w' v' q.norm w.heap.size ∧ Below w.heap.size w w' := by
  obtain ⟨p1, l1, k1, p2, l2, k2, rfl, hn, hd⟩ := h.shape
  obtain ⟨neg, n, d⟩ := q
  have FN : Hid (∀ w', Below w.heap.size w w' → Calls Try.prog 37 #[.slice p1 l1 k1] w' fun e w'' => ∃ v', e = .returned v' ∧ BitAt w'' v' (bitsN n) ∧ Below w'.heap.size w' w'') := Lib.hid (fun w' hb => from_n (hn.keep hb) hL)
  have FD : Hid (∀ w', Below w.heap.size w w' → Calls Try.prog 37 #[.slice p2 l2 k2] w' fun e w'' => ∃ v', e = .returned v' ∧ BitAt w'' v' (bitsN d) ∧ Below w'.heap.size w' w'') := Lib.hid (fun w' hb => from_n (hd.keep hb) hL)
  have NM : Hid (∀ va vb w, BitAt w va (bitsN n) → BitAt w vb (bitsN d) → Calls Try.prog 61 #[.bool neg, va, vb] w fun e w' => ∃ v, e = .returned v ∧ RFr w' v (Q.mk' neg n d) w.heap.size ∧ Below w.heap.size w w') := Lib.hid (fun va vb w h h' => rnorm_r h h' (Nat.le_trans (num_bits hn) (by omega)) (Nat.le_trans (num_bits hd) (by omega)))
  clear hn hd h
  have hnorm : Q.norm ⟨neg, n, d⟩ = Q.mk' neg n d := rfl
  rw [hnorm]
  clear hnorm
  have b0 := ((Blk.new w #[.bool neg, .slice p1 l1 k1, .slice p2 l2 k2] 30).alloc (.cells #[.bool false, .slice none 0 0, .slice none 0 0] 77)).drew
  have b1 := (Blk.new (w.alloc (.cells #[.bool neg, .slice p1 l1 k1, .slice p2 l2 k2] 30)) #[.bool false, .slice none 0 0, .slice none 0 0] 77).drew
  rw [World.size_alloc] at b1
  have hBd : Below w.heap.size w ((w.alloc (.cells #[.bool neg, .slice p1 l1 k1, .slice p2 l2 k2] 30)).alloc (.cells #[.bool false, .slice none 0 0, .slice none 0 0] 77)).drew := (((Below.refl _ _).alloc (Nat.le_refl _) _).alloc (by simp) _).drew
  have hsz : w.heap.size + 2 ≤ ((w.alloc (.cells #[.bool neg, .slice p1 l1 k1, .slice p2 l2 k2] 30)).alloc (.cells #[.bool false, .slice none 0 0, .slice none 0 0] 77)).drew.heap.size := by simp
  go_enter Try.func46, Try.ntmps46
  go_wp2_with fail
  revert b0 b1 hBd hsz
  generalize ((w.alloc (.cells #[.bool neg, .slice p1 l1 k1, .slice p2 l2 k2] 30)).alloc (.cells #[.bool false, .slice none 0 0, .slice none 0 0] 77)) = W
  intro b0 b1 hBd hsz
  have B0 := Lib.hid b0
  have B1 := Lib.hid b1
  obtain ⟨c0, c1, c2⟩ := b0.three
  clear b0 b1
  go_region_with (first
    | (go_at_call 37; ((with_reducible refine (FN.out _ hBd).mono ?_); rintro e w3 ⟨v3, rfl, hv3, hb3⟩; have hB3 := bel2' hBd hb3; have B03 := Lib.hid (B0.out.keep hb3); have B13 := Lib.hid (B1.out.keep hb3); obtain ⟨d0, d1, d2⟩ := B03.out.three))
    | (go_at_call 37; ((with_reducible refine (FD.out _ hB3).mono ?_); rintro e w4 ⟨v4, rfl, hv4, hb4⟩; have hB4 := bel2' hB3 hb4; have B04 := Lib.hid (B03.out.keep hb4); have B14 := Lib.hid (B13.out.keep hb4); obtain ⟨e0, e1, e2⟩ := B04.out.three; have hv34 := hv3.keep hb4))
    | (go_at_call 61; ((with_reducible refine (NM.out _ _ _ hv34 hv4).mono ?_); rintro e w5 ⟨v5, rfl, hv5, hb5⟩; have hB5 := bel2' hB4 hb5; obtain ⟨x1, y1, z1, x2, y2, z2, rfl, g1, g2, g3, g4⟩ := hv5.shape; have B15 := Lib.hid (B14.out.keep hb5); obtain ⟨k0, k1', k2'⟩ := B15.out.three; obtain ⟨f0, f1, f2⟩ := B15.out.free3)))
  all_goals
    go_wp2_with fail
    refine bodyPost_ret (v := .agg #[.bool (Q.mk' neg n d).neg, .slice x1 y1 z1, .slice x2 y2 z2]) (by simp [results, Try.results46, go_sem, k0, k1', k2']) rfl ?_
    have hz5 : w.heap.size + 2 ≤ w4.heap.size := Nat.le_trans hsz (Nat.le_trans hb3.size hb4.size)
    exact ⟨_, rfl, retR hB5 (by omega) ⟨_, _, rfl, g1, g2, g3.mono (by omega), g4.mono (by omega)⟩⟩


end Go.Proofs.Ytlhkjkhbgebgiaa
