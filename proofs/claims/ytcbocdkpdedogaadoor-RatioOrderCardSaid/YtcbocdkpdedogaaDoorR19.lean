import Derived.Test.YtcbocdkpdedogaaDoorR10c
import Derived.Test.YtcbocdkpdedogaaDoorR9
import Derived.Deep.RegionHeld3
namespace Go.Proofs.YtcbocdkpdedogaaDoor
open Go.RowKit Go.Proofs.Kit Go.Proofs.Nums

theorem eqR_self (n : Bool) (a b : List Nat) : eqR n a b n a b = true := by unfold eqR; rw [eqN_self, eqN_self]; simp
theorem RatN.l {w : World} {v : Value} {q : Q} {L : Nat} (h : RatN w v q L) : RatL w v q.neg (limbs q.n) (limbs q.d) := by
  obtain ⟨vn, vd, h1, h2, h3⟩ := h; exact ⟨vn, vd, h1, h2.1, h3.1⟩
theorem RatN.lens {w : World} {v : Value} {q : Q} {L : Nat} (h : RatN w v q L) : (limbs q.n).length ≤ L ∧ (limbs q.d).length ≤ L := by
  obtain ⟨vn, vd, h1, h2, h3⟩ := h; exact ⟨h2.len, h3.len⟩
theorem RatN.lts {w : World} {v : Value} {q : Q} {L : Nat} (h : RatN w v q L) : q.n < 4294967296 ^ L ∧ q.d < 4294967296 ^ L := by
  obtain ⟨vn, vd, h1, h2, h3⟩ := h; exact ⟨h2.2, h3.2⟩

set_option maxRecDepth 100000 in
set_option maxHeartbeats 4000000 in
theorem ris_r {va vb : Value} {q : Q} {L : Nat} {w : World} (ha : RatN w va q L) (hb : RAt w vb q) (hL : L ≤ 1000) :
    Calls Tryd.prog 15 #[va, vb] w fun e w' => e = .returned (.bool true) ∧ Below w.heap.size w w' := by
  obtain ⟨p1, l1, k1, p2, l2, k2, rfl, hn, hd⟩ := ha.shape
  obtain ⟨p3, l3, k3, p4, l4, k4, rfl, hm, hc⟩ := hb.shape
  have hl := ha.lens
  have TO := Lib.hid (fun w' (h : Below w.heap.size w w') => rto_r (L := L) (hb.keep h) hL ha.lts.1 ha.lts.2)
  have EQ : Hid (∀ v w', Below w.heap.size w w' → RatN w' v q L → Calls Tryd.prog 24 #[.agg #[.bool q.neg, .slice p1 l1 k1, .slice p2 l2 k2], v] w' fun e w'' => e = .returned (.bool true) ∧ Below w'.heap.size w' w'') := Lib.hid (fun v w' h h' => by
    have := req_r (ha.keep h).l h'.l (by omega) (by omega) (by omega) (by omega)
    rw [eqR_self] at this; exact this)
  obtain ⟨an, han⟩ : ∃ t, q.neg = t := ⟨_, rfl⟩
  rw [han] at TO EQ
  rw [han]
  clear hn hd hm hc ha hb hl han hL
  have hBd : Below w.heap.size w ((w.alloc (.cells #[.bool an, .slice p1 l1 k1, .slice p2 l2 k2] 25)).alloc (.cells #[.bool an, .slice p3 l3 k3, .slice p4 l4 k4] 30)).drew := (((Below.refl _ _).alloc (Nat.le_refl _) _).alloc (by simp) _).drew
  have b0 := ((Blk.new w #[.bool an, .slice p1 l1 k1, .slice p2 l2 k2] 25).alloc (.cells #[.bool an, .slice p3 l3 k3, .slice p4 l4 k4] 30)).drew
  have b1 := (Blk.new (w.alloc (.cells #[.bool an, .slice p1 l1 k1, .slice p2 l2 k2] 25)) #[.bool an, .slice p3 l3 k3, .slice p4 l4 k4] 30).drew
  rw [World.size_alloc] at b1
  go_enter Tryd.func15, Tryd.ntmps15
  go_wp2_with fail
  revert hBd b0 b1
  generalize (w.alloc (.cells #[.bool an, .slice p1 l1 k1, .slice p2 l2 k2] 25)).alloc (.cells #[.bool an, .slice p3 l3 k3, .slice p4 l4 k4] 30) = W
  intro hBd b0 b1
  have S0 := Lib.hid (And.intro b0.three.1 (And.intro b0.three.2.1 (And.intro b0.three.2.2 (And.intro b1.three.1 (And.intro b1.three.2.1 b1.three.2.2)))))
  clear b0 b1
  go_region_held3 (fun w' => w'.cell? ⟨w.heap.size, 0, none⟩ = some (.bool an) ∧ w'.cell? ⟨w.heap.size, 1, none⟩ = some (.slice p1 l1 k1) ∧ w'.cell? ⟨w.heap.size, 2, none⟩ = some (.slice p2 l2 k2) ∧ w'.cell? ⟨w.heap.size + 1, 0, none⟩ = some (.bool an) ∧ w'.cell? ⟨w.heap.size + 1, 1, none⟩ = some (.slice p3 l3 k3) ∧ w'.cell? ⟨w.heap.size + 1, 2, none⟩ = some (.slice p4 l4 k4))
    (first | exact S0.out | exact S3.out | exact S4.out)
    (first
      | (go_at_call 42; ((with_reducible refine (TO.out _ hBd).mono ?_); rintro e w3 ⟨v3, rfl, hv3, hb3⟩; have hB3 := bel2' hBd hb3; have S3 := Lib.hid (Below.six hb3 S0.out)))
      | (go_at_call 24; ((with_reducible refine (EQ.out _ _ hB3 hv3).mono ?_); rintro e w4 ⟨rfl, hb4⟩; have hB4 := bel2' hB3 hb4; have S4 := Lib.hid (Below.six hb4 S3.out))))
  all_goals
    go_wp2_with fail
    go_ret
    exact ⟨rfl, hB4⟩

end Go.Proofs.YtcbocdkpdedogaaDoor
