import Derived.Test.YtlhkjkhbgebgiaaR10
namespace Go.Proofs.Ytlhkjkhbgebgiaa
open Go.RowKit Go.Proofs.Kit Go.Proofs.Nums

set_option maxHeartbeats 4000000 in
theorem rto_r {v : Value} {q : Q} {L : Nat} {w : World} (h : RAt w v q) (hL : L ≤ 1000) (h1 : q.n < 4294967296 ^ L) (h2 : q.d < 4294967296 ^ L) :
    Calls Try.prog 48 #[v] w fun e w' => ∃ v', e = .returned v' ∧ RatN w' v' q L ∧ Below w.heap.size w w' := by
  obtain ⟨p1, l1, k1, p2, l2, k2, rfl, hn, hd⟩ := h.shape
  obtain ⟨neg, n, d⟩ := q
  have FN : Hid (∀ w', Below w.heap.size w w' → Calls Try.prog 63 #[.slice p1 l1 k1] w' fun e w'' => ∃ v', e = .returned v' ∧ Nrm w'' v' n L ∧ Below w'.heap.size w' w'') := Lib.hid (fun w' hb => to_n (hn.keep hb) hL h1)
  have FD : Hid (∀ w', Below w.heap.size w w' → Calls Try.prog 63 #[.slice p2 l2 k2] w' fun e w'' => ∃ v', e = .returned v' ∧ Nrm w'' v' d L ∧ Below w'.heap.size w' w'') := Lib.hid (fun w' hb => to_n (hd.keep hb) hL h2)
  clear hn hd h h1 h2
  have b0 := ((Blk.new w #[.bool neg, .slice p1 l1 k1, .slice p2 l2 k2] 77).alloc (.cells #[.bool false, .slice none 0 0, .slice none 0 0] 30)).drew
  have b1 := (Blk.new (w.alloc (.cells #[.bool neg, .slice p1 l1 k1, .slice p2 l2 k2] 77)) #[.bool false, .slice none 0 0, .slice none 0 0] 30).drew
  rw [World.size_alloc] at b1
  have hBd : Below w.heap.size w ((w.alloc (.cells #[.bool neg, .slice p1 l1 k1, .slice p2 l2 k2] 77)).alloc (.cells #[.bool false, .slice none 0 0, .slice none 0 0] 30)).drew := (((Below.refl _ _).alloc (Nat.le_refl _) _).alloc (by simp) _).drew
  go_enter Try.func48, Try.ntmps48
  go_wp2_with fail
  revert b0 b1 hBd
  generalize ((w.alloc (.cells #[.bool neg, .slice p1 l1 k1, .slice p2 l2 k2] 77)).alloc (.cells #[.bool false, .slice none 0 0, .slice none 0 0] 30)) = W
  intro b0 b1 hBd
  have B0 := Lib.hid b0
  have B1 := Lib.hid b1
  obtain ⟨c0, c1, c2⟩ := b0.three
  clear b0 b1
  go_region_with (first
    | (go_at_call 63; ((with_reducible refine (FN.out _ hBd).mono ?_); rintro e w3 ⟨v3, rfl, hv3, hb3⟩; have hB3 := bel2' hBd hb3; have B03 := Lib.hid (B0.out.keep hb3); have B13 := Lib.hid (B1.out.keep hb3); obtain ⟨d0, d1, d2⟩ := B03.out.three))
    | (go_at_call 63; ((with_reducible refine (FD.out _ hB3).mono ?_); rintro e w4 ⟨v4, rfl, hv4, hb4⟩; have hB4 := bel2' hB3 hb4; have B04 := Lib.hid (B03.out.keep hb4); have B14 := Lib.hid (B13.out.keep hb4); obtain ⟨e0, e1, e2⟩ := B04.out.three; have hv34 := hv3.keep hb4; obtain ⟨x1, y1, z1, rfl⟩ := hv34.shape; obtain ⟨x2, y2, z2, rfl⟩ := hv4.shape; obtain ⟨k0, k1', k2'⟩ := B14.out.three; obtain ⟨f0, f1, f2⟩ := B14.out.free3)))
  all_goals
    go_wp2_with fail
    refine bodyPost_ret (v := .agg #[.bool neg, .slice x1 y1 z1, .slice x2 y2 z2]) (by simp [results, Try.results48, go_sem, k0, k1', k2']) rfl ?_
    exact ⟨_, rfl, retN (q := ⟨neg, n, d⟩) hB4 (by omega) B14.out (by simp) (by simp) (by simp) hv34 hv4⟩

end Go.Proofs.Ytlhkjkhbgebgiaa
