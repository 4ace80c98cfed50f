import Derived.Test.YtcbocdkpdedogaaDoorR16
import Derived.Test.YtcbocdkpdedogaaDoorMW
namespace Go.Proofs.YtcbocdkpdedogaaDoor
open Go.RowKit Go.Proofs.Kit Go.Proofs.Nums

/-- The text of a normal form. -/
def ratB (q : Q) : List UInt8 := (if q.neg then [45] else []) ++ (decB q.n ++ (if q.d = 1 then [] else 47 :: decB q.d))

theorem bs_app (a b : List UInt8) : (⟨a.toArray⟩ : ByteArray) ++ ⟨b.toArray⟩ = ⟨(a ++ b).toArray⟩ := by
  apply ByteArray.ext
  rw [ByteArray.data_append]
  simp
theorem decB_one {n : Nat} : decB n = [49] ↔ n = 1 := by
  constructor
  · intro h
    have := pvF_dec n
    rw [h] at this
    rw [← this]; rfl
  · intro h; subst h; rfl

theorem keep3c {w w' : World} {b : Nat} {x y z : Value} (hb : Below w.heap.size w w') (h : w.cell? ⟨b, 0, none⟩ = some x ∧ w.cell? ⟨b, 1, none⟩ = some y ∧ w.cell? ⟨b, 2, none⟩ = some z) :
    w'.cell? ⟨b, 0, none⟩ = some x ∧ w'.cell? ⟨b, 1, none⟩ = some y ∧ w'.cell? ⟨b, 2, none⟩ = some z := ⟨cell_keep hb h.1, cell_keep hb h.2.1, cell_keep hb h.2.2⟩

set_option maxHeartbeats 4000000 in
theorem text_r {v : Value} {q : Q} {L : Nat} {w : World} (h : RatAt w v q L) (hL : L ≤ 1000) (hL2 : 2 ≤ L) :
    Calls Tryd.prog 20 #[v] w fun e w' => e = .returned (.string ⟨(ratB q.norm).toArray⟩) ∧ Below w.heap.size w w' := by
  obtain ⟨p1, l1, k1, p2, l2, k2, rfl, hn, hd⟩ := h.shape
  have NA := Lib.hid (fun w' (hb : Below w.heap.size w w') => norm_r (h.keep hb) (by omega) hL2)
  have hsz : q.norm.Sz 32000 := Q.mk'_sz (Nat.le_trans (num_bits hn) (by omega)) (Nat.le_trans (num_bits hd) (by omega)) (by omega)
  obtain ⟨⟨nneg, nn, nd⟩, hqn⟩ : ∃ x, q.norm = x := ⟨_, rfl⟩
  rw [hqn] at hsz
  have l1' := decB_le nn 32000 hsz.1 (by omega)
  have l2' := decB_le nd 32000 hsz.2 (by omega)
  clear hsz
  obtain ⟨an, han⟩ : ∃ t, q.neg = t := ⟨_, rfl⟩
  rw [hqn, han] at NA
  rw [hqn]
  rw [han]
  clear hqn han hn hd h
  have TN : Hid (∀ v w, Num w v nn L → Calls Tryd.prog 53 #[v] w fun e w' => e = .returned (.string ⟨(decB nn).toArray⟩) ∧ Below w.heap.size w w') := Lib.hid (fun v w h => text_num h hL)
  have TD : Hid (∀ v w, Num w v nd L → Calls Tryd.prog 53 #[v] w fun e w' => e = .returned (.string ⟨(decB nd).toArray⟩) ∧ Below w.heap.size w w') := Lib.hid (fun v w h => text_num h hL)
  obtain ⟨s1, hs1⟩ : ∃ s : ByteArray, (⟨(decB nn).toArray⟩ : ByteArray) = s := ⟨_, rfl⟩
  obtain ⟨s2, hs2⟩ : ∃ s : ByteArray, (⟨(decB nd).toArray⟩ : ByteArray) = s := ⟨_, rfl⟩
  rw [hs1] at TN
  rw [hs2] at TD
  have HS1 := Lib.hid hs1
  have HS2 := Lib.hid hs2
  obtain ⟨R, hR⟩ : ∃ R, ratB ⟨nneg, nn, nd⟩ = R := ⟨_, rfl⟩
  rw [hR]
  have HR := Lib.hid hR
  have z1' : s1.size ≤ 32000 := by rw [← hs1, Lib.size_eq]; exact l1'
  have z2' : s2.size ≤ 32000 := by rw [← hs2, Lib.size_eq]; exact l2'
  have y1' : ¬ 9223372036854775807 < 1 + s2.size := by omega
  have y2' : ¬ 9223372036854775807 < s1.size + (1 + s2.size) := by omega
  have y3' : ¬ 9223372036854775807 < 1 + s1.size := by omega
  have y4' : ¬ 9223372036854775807 < 1 + s1.size + (1 + s2.size) := by omega
  have htest : Hid ((nd = 1 ∧ (s2.toList == [49]) = true) ∨ (¬ nd = 1 ∧ (s2.toList == [49]) = false)) := Lib.hid (by
    have e : s2.toList = decB nd := by rw [← hs2, ByteArray.toList_eq]
    rw [e]
    by_cases h1 : nd = 1
    · exact .inl ⟨h1, by rw [decB_one.mpr h1]; rfl⟩
    · exact .inr ⟨h1, by rw [beq_eq_false_iff_ne]; exact fun h => h1 (decB_one.mp h)⟩)
  clear hs1 hs2 hR l1' l2' z1' z2'
  have B0 := Lib.hid (Blk.new w #[.bool an, .slice p1 l1 k1, .slice p2 l2 k2] 25)
  have hBd : Below w.heap.size w (w.alloc (.cells #[.bool an, .slice p1 l1 k1, .slice p2 l2 k2] 25)) := (Below.refl _ _).alloc (Nat.le_refl _) _
  rcases htest.out with ⟨h1, h2⟩ | ⟨h1, h2⟩
  · have H1 := Lib.hid h1
    clear h1
    cases nneg
    · go_enter Tryd.func20, Tryd.ntmps20
      go_wp2_with (first
        | (go_at_call 46; ((with_reducible refine (NA.out _ hBd).mono ?_); rintro e w5 ⟨v5, rfl, hv5, hb5⟩; have hB5 := bel2' hBd hb5; obtain ⟨x1, y1, z1, x2, y2, z2, rfl, r1, r2⟩ := hv5.shape; have B05 := Lib.hid (B0.out.keep hb5); obtain ⟨m0, m1, m2⟩ := B05.out.three; obtain ⟨t0, t1, t2⟩ := B05.out.free3; have hR := Lib.hid (retN (q := ⟨false, nn, nd⟩) hB5 (Nat.le_refl _) B05.out (by simp) (by simp) (by simp) r1 r2)))
        | (go_at_call 53; ((with_reducible refine (TN.out _ _ hR.out.1.get.1.num).mono ?_); rintro e w6 ⟨rfl, hb6⟩; have hB6 := bel2' hR.out.2 hb6; have hd6 := hR.out.1.get.2.keep hb6; have g := set3_in (x := .bool false) (y := .slice x1 y1 z1) (z := .slice x2 y2 z2) m0 m1 m2; unfold set3 at g; obtain ⟨q0, q1, q2⟩ := keep3c hb6 g; clear g))
        | (go_at_call 53; ((with_reducible refine (TD.out _ _ hd6.num).mono ?_); rintro e w7 ⟨rfl, hb7⟩; have hB7 := bel2' hB6 hb7)))
      go_ret
      refine ⟨?_, hB7⟩
      rw [← HR.out, ← HS1.out]
      unfold ratB
      rw [if_pos H1.out]
      simp
    · go_enter Tryd.func20, Tryd.ntmps20
      go_wp2_with (first
        | (go_at_call 46; ((with_reducible refine (NA.out _ hBd).mono ?_); rintro e w5 ⟨v5, rfl, hv5, hb5⟩; have hB5 := bel2' hBd hb5; obtain ⟨x1, y1, z1, x2, y2, z2, rfl, r1, r2⟩ := hv5.shape; have B05 := Lib.hid (B0.out.keep hb5); obtain ⟨m0, m1, m2⟩ := B05.out.three; obtain ⟨t0, t1, t2⟩ := B05.out.free3; have hR := Lib.hid (retN (q := ⟨true, nn, nd⟩) hB5 (Nat.le_refl _) B05.out (by simp) (by simp) (by simp) r1 r2)))
        | (go_at_call 53; ((with_reducible refine (TN.out _ _ hR.out.1.get.1.num).mono ?_); rintro e w6 ⟨rfl, hb6⟩; have hB6 := bel2' hR.out.2 hb6; have hd6 := hR.out.1.get.2.keep hb6; have g := set3_in (x := .bool true) (y := .slice x1 y1 z1) (z := .slice x2 y2 z2) m0 m1 m2; unfold set3 at g; obtain ⟨q0, q1, q2⟩ := keep3c hb6 g; clear g))
        | (go_at_call 53; ((with_reducible refine (TD.out _ _ hd6.num).mono ?_); rintro e w7 ⟨rfl, hb7⟩; have hB7 := bel2' hB6 hb7)))
      go_ret
      refine ⟨?_, hB7⟩
      rw [← HR.out, ← HS1.out]
      unfold ratB
      rw [if_pos H1.out]
      have e45 : (⟨#[45]⟩ : ByteArray) = ⟨([45] : List UInt8).toArray⟩ := rfl
      rw [e45]
      simp only [bs_app]
      simp
  · have H1 := Lib.hid h1
    clear h1
    cases nneg
    · go_enter Tryd.func20, Tryd.ntmps20
      go_wp2_with (first
        | (go_at_call 46; ((with_reducible refine (NA.out _ hBd).mono ?_); rintro e w5 ⟨v5, rfl, hv5, hb5⟩; have hB5 := bel2' hBd hb5; obtain ⟨x1, y1, z1, x2, y2, z2, rfl, r1, r2⟩ := hv5.shape; have B05 := Lib.hid (B0.out.keep hb5); obtain ⟨m0, m1, m2⟩ := B05.out.three; obtain ⟨t0, t1, t2⟩ := B05.out.free3; have hR := Lib.hid (retN (q := ⟨false, nn, nd⟩) hB5 (Nat.le_refl _) B05.out (by simp) (by simp) (by simp) r1 r2)))
        | (go_at_call 53; ((with_reducible refine (TN.out _ _ hR.out.1.get.1.num).mono ?_); rintro e w6 ⟨rfl, hb6⟩; have hB6 := bel2' hR.out.2 hb6; have hd6 := hR.out.1.get.2.keep hb6; have g := set3_in (x := .bool false) (y := .slice x1 y1 z1) (z := .slice x2 y2 z2) m0 m1 m2; unfold set3 at g; obtain ⟨q0, q1, q2⟩ := keep3c hb6 g; clear g))
        | (go_at_call 53; ((with_reducible refine (TD.out _ _ hd6.num).mono ?_); rintro e w7 ⟨rfl, hb7⟩; have hB7 := bel2' hB6 hb7)))
      go_ret
      refine ⟨?_, hB7⟩
      rw [← HR.out, ← HS1.out, ← HS2.out]
      unfold ratB
      rw [if_neg H1.out]
      have e47 : (⟨#[47]⟩ : ByteArray) = ⟨([47] : List UInt8).toArray⟩ := rfl
      rw [e47]
      simp only [bs_app]
      simp
    · go_enter Tryd.func20, Tryd.ntmps20
      go_wp2_with (first
        | (go_at_call 46; ((with_reducible refine (NA.out _ hBd).mono ?_); rintro e w5 ⟨v5, rfl, hv5, hb5⟩; have hB5 := bel2' hBd hb5; obtain ⟨x1, y1, z1, x2, y2, z2, rfl, r1, r2⟩ := hv5.shape; have B05 := Lib.hid (B0.out.keep hb5); obtain ⟨m0, m1, m2⟩ := B05.out.three; obtain ⟨t0, t1, t2⟩ := B05.out.free3; have hR := Lib.hid (retN (q := ⟨true, nn, nd⟩) hB5 (Nat.le_refl _) B05.out (by simp) (by simp) (by simp) r1 r2)))
        | (go_at_call 53; ((with_reducible refine (TN.out _ _ hR.out.1.get.1.num).mono ?_); rintro e w6 ⟨rfl, hb6⟩; have hB6 := bel2' hR.out.2 hb6; have hd6 := hR.out.1.get.2.keep hb6; have g := set3_in (x := .bool true) (y := .slice x1 y1 z1) (z := .slice x2 y2 z2) m0 m1 m2; unfold set3 at g; obtain ⟨q0, q1, q2⟩ := keep3c hb6 g; clear g))
        | (go_at_call 53; ((with_reducible refine (TD.out _ _ hd6.num).mono ?_); rintro e w7 ⟨rfl, hb7⟩; have hB7 := bel2' hB6 hb7)))
      go_ret
      refine ⟨?_, hB7⟩
      rw [← HR.out, ← HS1.out, ← HS2.out]
      unfold ratB
      rw [if_neg H1.out]
      have e45 : (⟨#[45]⟩ : ByteArray) = ⟨([45] : List UInt8).toArray⟩ := rfl
      rw [e45]
      have e47 : (⟨#[47]⟩ : ByteArray) = ⟨([47] : List UInt8).toArray⟩ := rfl
      rw [e47]
      simp only [bs_app]
      simp

end Go.Proofs.YtcbocdkpdedogaaDoor
