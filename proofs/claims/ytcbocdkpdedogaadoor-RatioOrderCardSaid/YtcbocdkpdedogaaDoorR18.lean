import Derived.Test.YtcbocdkpdedogaaDoorGS
import Derived.Test.YtcbocdkpdedogaaDoorR7
import Derived.Test.YtcbocdkpdedogaaDoorR8
import Derived.Deep.RegionHeld3
namespace Go.Proofs.YtcbocdkpdedogaaDoor
open Go.RowKit Go.Proofs.Kit Go.Proofs.Nums

theorem keep3 {w : World} {b b' : Nat} {a0 a1 a2 x y z : Value} (hne : b ≠ b') (h : w.cell? ⟨b, 0, none⟩ = some a0 ∧ w.cell? ⟨b, 1, none⟩ = some a1 ∧ w.cell? ⟨b, 2, none⟩ = some a2) :
    (((w.setCell ⟨b', 0, none⟩ x).setCell ⟨b', 1, none⟩ y).setCell ⟨b', 2, none⟩ z).cell? ⟨b, 0, none⟩ = some a0 ∧ (((w.setCell ⟨b', 0, none⟩ x).setCell ⟨b', 1, none⟩ y).setCell ⟨b', 2, none⟩ z).cell? ⟨b, 1, none⟩ = some a1 ∧ (((w.setCell ⟨b', 0, none⟩ x).setCell ⟨b', 1, none⟩ y).setCell ⟨b', 2, none⟩ z).cell? ⟨b, 2, none⟩ = some a2 := by
  have e : ∀ o, (((w.setCell ⟨b', 0, none⟩ x).setCell ⟨b', 1, none⟩ y).setCell ⟨b', 2, none⟩ z).cell? ⟨b, o, none⟩ = w.cell? ⟨b, o, none⟩ := fun o => set3_out (w := w) (b := b') (b' := b) (o := o) (x := x) (y := y) (z := z) hne
  rw [e 0, e 1, e 2]
  exact h

theorem NatAt.shp {w : World} {v : Value} {l : List Nat} (h : NatAt w v l) : ∃ p n c, v = .slice p n c := by
  obtain ⟨p, c, h1⟩ := h.shape; exact ⟨p, _, c, h1⟩

set_option maxRecDepth 100000 in
set_option maxHeartbeats 4000000 in
theorem rshort_r {v : Value} {neg : Bool} {a b : List Nat} {w : World} (h : RatL w v neg a b) (k : Nat) (hk : k ≤ 1000) (z : Int) (hz : (k : Int) = z) :
    Calls Tryd.prog 12 #[v, .int .i64 z] w fun e w' => ∃ v', e = .returned v' ∧ RatL w' v' neg (a.take k) (b.take k) ∧ Below w.heap.size w w' := by
  obtain ⟨vn, vd, rfl, h1, h2⟩ := h
  obtain ⟨p1, k1, rfl⟩ := h1.shape
  obtain ⟨p2, k2, rfl⟩ := h2.shape
  have SA := Lib.hid (fun w' (hb : Below w.heap.size w w') => by
    have := short_any _ a k w' (h1.keep hb) (by omega)
    rw [hz] at this; exact this)
  have SB := Lib.hid (fun w' (hb : Below w.heap.size w w') => by
    have := short_any _ b k w' (h2.keep hb) (by omega)
    rw [hz] at this; exact this)
  obtain ⟨n1, hn1⟩ : ∃ n, a.length = n := ⟨_, rfl⟩
  obtain ⟨n2, hn2⟩ : ∃ n, b.length = n := ⟨_, rfl⟩
  rw [hn1] at SA ⊢
  rw [hn2] at SB ⊢
  clear h1 h2 hn1 hn2 hz hk
  have hBd : Below w.heap.size w ((w.alloc (.cells #[.bool neg, .slice p1 n1 k1, .slice p2 n2 k2] 25)).alloc (.cells #[.bool false, .slice none 0 0, .slice none 0 0] 25)) := ((Below.refl _ _).alloc (Nat.le_refl _) _).alloc (by simp) _
  have b0 := ((Blk.new w #[.bool neg, .slice p1 n1 k1, .slice p2 n2 k2] 25).alloc (.cells #[.bool false, .slice none 0 0, .slice none 0 0] 25)).drew
  have b1 := Blk.new (w.alloc (.cells #[.bool neg, .slice p1 n1 k1, .slice p2 n2 k2] 25)) #[.bool false, .slice none 0 0, .slice none 0 0] 25
  rw [World.size_alloc] at b1
  go_enter Tryd.func12, Tryd.ntmps12
  go_wp2_with fail
  revert hBd b0 b1
  generalize (w.alloc (.cells #[.bool neg, .slice p1 n1 k1, .slice p2 n2 k2] 25)).alloc (.cells #[.bool false, .slice none 0 0, .slice none 0 0] 25) = W
  intro hBd b0 b1
  have B1 := Lib.hid b1
  have S0 := Lib.hid b0.three
  have hBW := Lib.hid hBd
  have hBd := hBd.drew
  obtain ⟨m0, m1, m2⟩ := b1.three
  obtain ⟨t0, t1, t2⟩ := b1.free3
  clear b0 b1
  go_region_held3 (fun w' => w'.cell? ⟨w.heap.size, 0, none⟩ = some (.bool neg) ∧ w'.cell? ⟨w.heap.size, 1, none⟩ = some (.slice p1 n1 k1) ∧ w'.cell? ⟨w.heap.size, 2, none⟩ = some (.slice p2 n2 k2))
    (first | exact S0.out | exact keep3 (by omega) S0.out | exact keep3 (w := W) (by omega) S0.out)
    (first
      | (go_at_call 43; ((with_reducible refine (SA.out _ hBd).mono ?_); rintro e w3 ⟨v3, rfl, hv3, rfl⟩; obtain ⟨x3, y3, z3, rfl⟩ := hv3.shp))
      | (go_at_call 43; ((with_reducible refine (SB.out _ hBd).mono ?_); rintro e w4 ⟨v4, rfl, hv4, rfl⟩; obtain ⟨x4, y4, z4, rfl⟩ := hv4.shp)))
  all_goals
    go_wp2_with fail
    refine bodyPost_ret (v := .agg #[.bool neg, .slice x3 y3 z3, .slice x4 y4 z4]) (by simp [results, Tryd.results12, go_sem, m0, m1, m2]) rfl ?_
    have HN : NoLimb W (w.heap.size + 1) := fun o t => by rw [B1.out.2.1]; exact noLimb3 (by simp) (by simp) (by simp) o t
    have g3 : NatAt W (.slice x3 y3 z3) _ := hv3
    have g4 : NatAt W (.slice x4 y4 z4) _ := hv4
    exact ⟨_, rfl, ⟨_, _, rfl, (g3.off (heap_set3 _ _ _ _ _) HN).keep (Below.refl _ _).drew, (g4.off (heap_set3 _ _ _ _ _) HN).keep (Below.refl _ _).drew⟩, (below_set3 hBW.out (by omega) _ _ _).drew⟩

end Go.Proofs.YtcbocdkpdedogaaDoor
