import Derived.Test.YtcbocdkpdedogaaDoorR8
import Derived.Test.YtcbocdkpdedogaaDoorGG
import Derived.Test.YtcbocdkpdedogaaDoorMR
namespace Go.Proofs.YtcbocdkpdedogaaDoor
open Go.RowKit Go.Proofs.Kit Go.Proofs.Nums

theorem RatN.get {w : World} {t : Bool} {vn vd : Value} {q : Q} {L : Nat} (h : RatN w (.agg #[.bool t, vn, vd]) q L) : Nrm w vn q.n L ∧ Nrm w vd q.d L := by
  obtain ⟨a1, a2, ha, hn, hd⟩ := h
  simp only [Value.agg.injEq, Array.mk.injEq, List.cons.injEq, and_true, Value.bool.injEq] at ha
  obtain ⟨_, rfl, rfl⟩ := ha
  exact ⟨hn, hd⟩

set_option maxHeartbeats 4000000 in
theorem floor_r {v : Value} {q : Q} {L : Nat} {w : World} (h : RatAt w v q L) (hL : L ≤ 100000) (hL2 : 2 ≤ L) :
    Calls Tryd.prog 29 #[v] w fun e w' => ∃ v', e = .returned (.tuple #[v', .bool (!q.norm.neg)]) ∧ Nrm w' v' (if q.norm.neg then 0 else q.norm.n / q.norm.d) L ∧ Below w.heap.size w w' := by
  obtain ⟨p1, l1, k1, p2, l2, k2, rfl, hn, hd⟩ := h.shape
  have NA := Lib.hid (fun w' (hb : Below w.heap.size w w') => norm_r (h.keep hb) (by omega) hL2)
  have hpos := Lib.hid (Q.norm_d q)
  obtain ⟨⟨nneg, nn, nd⟩, hqn⟩ : ∃ x, q.norm = x := ⟨_, rfl⟩
  obtain ⟨an, han⟩ : ∃ t, q.neg = t := ⟨_, rfl⟩
  rw [hqn, han] at NA
  rw [hqn] at hpos ⊢
  rw [han]
  clear hqn han hn hd h
  have B0 := Lib.hid (Blk.new w #[.bool an, .slice p1 l1 k1, .slice p2 l2 k2] 25)
  have hBd : Below w.heap.size w (w.alloc (.cells #[.bool an, .slice p1 l1 k1, .slice p2 l2 k2] 25)) := (Below.refl _ _).alloc (Nat.le_refl _) _
  cases nneg
  · go_enter Tryd.func29, Tryd.ntmps29
    go_wp2_with (first
      | (go_at_call 46; ((with_reducible refine (NA.out _ hBd).mono ?_); rintro e w5 ⟨v5, rfl, hv5, hb5⟩; have hB5 := bel2' hBd hb5; obtain ⟨x1, y1, z1, x2, y2, z2, rfl, r1, r2⟩ := hv5.shape; have B05 := Lib.hid (B0.out.keep hb5); obtain ⟨m0, m1, m2⟩ := B05.out.three; obtain ⟨t0, t1, t2⟩ := B05.out.free3; have hR := Lib.hid (retN (q := ⟨false, nn, nd⟩) hB5 (Nat.le_refl _) B05.out (by simp) (by simp) (by simp) r1 r2)))
      | (go_at_call 63; ((with_reducible refine (div_num (n := nn) (m := nd) (L := L) (M := L) hR.out.1.get.1.num hR.out.1.get.2.num (by omega) (by omega) hpos.out).mono ?_); rintro e w6 ⟨vq, vr, rfl, hq, hr, hb6⟩; have hB6 := bel2' hR.out.2 hb6)))
    go_ret2
    exact ⟨_, rfl, hq, hB6⟩
  · go_enter Tryd.func29, Tryd.ntmps29
    go_wp2_with (go_at_call 46; ((with_reducible refine (NA.out _ hBd).mono ?_); rintro e w5 ⟨v5, rfl, hv5, hb5⟩; have hB5 := bel2' hBd hb5; obtain ⟨x1, y1, z1, x2, y2, z2, rfl, r1, r2⟩ := hv5.shape; have B05 := Lib.hid (B0.out.keep hb5); obtain ⟨m0, m1, m2⟩ := B05.out.three; obtain ⟨t0, t1, t2⟩ := B05.out.free3; have hR := Lib.hid (retN (q := ⟨true, nn, nd⟩) hB5 (Nat.le_refl _) B05.out (by simp) (by simp) (by simp) r1 r2)))
    go_ret2
    exact ⟨_, rfl, nrm_nil' _ _, hR.out.2⟩

end Go.Proofs.YtcbocdkpdedogaaDoor
