import Derived.Test.YtcbocdkpdedogaaDoorR20
import Derived.Test.YtcbocdkpdedogaaDoorR11
import Derived.Test.YtcbocdkpdedogaaDoorGH
import Derived.Deep.RegionHeld3
namespace Go.Proofs.YtcbocdkpdedogaaDoor
open Go.RowKit Go.Proofs.Kit Go.Proofs.Nums

set_option maxRecDepth 100000 in
set_option maxHeartbeats 4000000 in
theorem rtext_r {v : Value} {q : Q} {w : World} (h : RAt w v q) (hs : q.Sz 20000) :
    Calls Tryd.prog 22 #[v] w fun e w' => e = .returned (.string ⟨(ratB q).toArray⟩) ∧ Below w.heap.size w w' := by
  obtain ⟨p1, l1, k1, p2, l2, k2, rfl, hn, hd⟩ := h.shape
  obtain ⟨nneg, nn, nd⟩ := q
  simp only at hn hd
  have TN : Hid (∀ w', Below w.heap.size w w' → Calls Tryd.prog 57 #[.slice p1 l1 k1] w' fun e w'' => e = .returned (.string ⟨(decB nn).toArray⟩) ∧ Below w'.heap.size w' w'') := Lib.hid (fun w' hb => digits_n _ nn w' (hn.keep hb) (Nat.le_trans hs.1 (by omega)))
  have TD : Hid (∀ w', Below w.heap.size w w' → Calls Tryd.prog 57 #[.slice p2 l2 k2] w' fun e w'' => e = .returned (.string ⟨(decB nd).toArray⟩) ∧ Below w'.heap.size w' w'') := Lib.hid (fun w' hb => digits_n _ nd w' (hd.keep hb) (Nat.le_trans hs.2 (by omega)))
  have SM : Hid (∀ w, Calls Tryd.prog 58 #[.int .i64 1] w fun e w' => ∃ v', e = .returned v' ∧ BitAt w' v' (bitsN 1) ∧ Fresh w.heap.size v' ∧ Below w.heap.size w w') := Lib.hid (fun w => small_f 1 w (by omega))
  obtain ⟨C, hC⟩ : ∃ C, cmpN nd 1 = C := ⟨_, rfl⟩
  have CM : Hid (∀ v w', Below w.heap.size w w' → BitAt w' v (bitsN 1) → Calls Tryd.prog 51 #[.slice p2 l2 k2, v] w' fun e w'' => e = .returned (.int .i64 C) ∧ Below w'.heap.size w' w'') := Lib.hid (fun v w' hb h1 => rcmp_b _ _ nd 1 w' (hd.keep hb) h1 (Lib.hid hs.2) (Lib.hid (by decide)) (Lib.hid hC))
  have l1' := decB_le nn 20000 hs.1 (by omega)
  have l2' := decB_le nd 20000 hs.2 (by omega)
  have htest : Hid ((nd = 1 ∧ (C == 0) = true) ∨ (¬ nd = 1 ∧ (C == 0) = false)) := Lib.hid (by
    subst hC
    unfold cmpN
    by_cases h1 : nd = 1
    · exact .inl ⟨h1, by rw [h1]; rfl⟩
    · refine .inr ⟨h1, ?_⟩
      rcases Nat.lt_or_ge nd 1 with h2 | h2
      · rw [if_pos h2]; rfl
      · rw [if_neg (by omega), if_pos (by omega)]; rfl)
  obtain ⟨s1, hs1⟩ : ∃ s : ByteArray, (⟨(decB nn).toArray⟩ : ByteArray) = s := ⟨_, rfl⟩
  obtain ⟨s2, hs2⟩ : ∃ s : ByteArray, (⟨(decB nd).toArray⟩ : ByteArray) = s := ⟨_, rfl⟩
  rw [hs1] at TN
  rw [hs2] at TD
  have HS1 := Lib.hid hs1
  have HS2 := Lib.hid hs2
  obtain ⟨R, hR⟩ : ∃ R, ratB ⟨nneg, nn, nd⟩ = R := ⟨_, rfl⟩
  rw [hR]
  have HR := Lib.hid hR
  have z1' : s1.size ≤ 20000 := by rw [← hs1, Lib.size_eq]; exact l1'
  have z2' : s2.size ≤ 20000 := by rw [← hs2, Lib.size_eq]; exact l2'
  have y1' : ¬ 9223372036854775807 < 1 + s2.size := by omega
  have y2' : ¬ 9223372036854775807 < s1.size + (1 + s2.size) := by omega
  have y3' : ¬ 9223372036854775807 < 1 + s1.size := by omega
  have y4' : ¬ 9223372036854775807 < 1 + s1.size + (1 + s2.size) := by omega
  clear hs1 hs2 hR l1' l2' z1' z2' hC hs hn hd h
  have B0 := Lib.hid (Blk.new w #[.bool nneg, .slice p1 l1 k1, .slice p2 l2 k2] 30)
  have hBd : Below w.heap.size w (w.alloc (.cells #[.bool nneg, .slice p1 l1 k1, .slice p2 l2 k2] 30)) := (Below.refl _ _).alloc (Nat.le_refl _) _
  rcases htest.out with ⟨h1, h2⟩ | ⟨h1, h2⟩
  · have H1 := Lib.hid h1
    clear h1
    cases nneg
    · go_enter Tryd.func22, Tryd.ntmps22
      go_wp2_with (go_at_call 57; ((with_reducible refine (TN.out _ hBd).mono ?_); rintro e w3 ⟨rfl, hb3⟩; have hB3 := bel2' hBd hb3; have B03 := Lib.hid (B0.out.keep hb3); have S3 := Lib.hid B03.out.drew.three; obtain ⟨c0, c1, c2⟩ := B03.out.three))
      go_region_held3 (fun w' => w'.cell? ⟨w.heap.size, 0, none⟩ = some (.bool false) ∧ w'.cell? ⟨w.heap.size, 1, none⟩ = some (.slice p1 l1 k1) ∧ w'.cell? ⟨w.heap.size, 2, none⟩ = some (.slice p2 l2 k2))
        (first | exact S3.out | exact S4.out | exact S5.out)
        (first
          | (go_at_call 58; ((with_reducible refine (SM.out _).mono ?_); rintro e w4 ⟨v4, rfl, hv4, hf4, hb4⟩; have hB4 := bel2' hB3.drew hb4; have B04 := Lib.hid (B03.out.drew.keep hb4); have S4 := Lib.hid B04.out.three))
          | (go_at_call 51; ((with_reducible refine (CM.out _ _ hB4 hv4).mono ?_); rintro e w5 ⟨rfl, hb5⟩; have hB5 := bel2' hB4 hb5; have B05 := Lib.hid (B04.out.keep hb5); have S5 := Lib.hid B05.out.three)))
      all_goals
        obtain ⟨d0, d1, d2⟩ := S5.out
        go_wp2_with fail
        go_ret
        refine ⟨?_, hB5⟩
        rw [← HR.out, ← HS1.out]
        unfold ratB
        rw [if_pos H1.out]
        simp
    · go_enter Tryd.func22, Tryd.ntmps22
      go_wp2_with (go_at_call 57; ((with_reducible refine (TN.out _ hBd).mono ?_); rintro e w3 ⟨rfl, hb3⟩; have hB3 := bel2' hBd hb3; have B03 := Lib.hid (B0.out.keep hb3); have S3 := Lib.hid B03.out.drew.three; obtain ⟨c0, c1, c2⟩ := B03.out.three))
      go_region_held3 (fun w' => w'.cell? ⟨w.heap.size, 0, none⟩ = some (.bool true) ∧ w'.cell? ⟨w.heap.size, 1, none⟩ = some (.slice p1 l1 k1) ∧ w'.cell? ⟨w.heap.size, 2, none⟩ = some (.slice p2 l2 k2))
        (first | exact S3.out | exact S4.out | exact S5.out)
        (first
          | (go_at_call 58; ((with_reducible refine (SM.out _).mono ?_); rintro e w4 ⟨v4, rfl, hv4, hf4, hb4⟩; have hB4 := bel2' hB3.drew hb4; have B04 := Lib.hid (B03.out.drew.keep hb4); have S4 := Lib.hid B04.out.three))
          | (go_at_call 51; ((with_reducible refine (CM.out _ _ hB4 hv4).mono ?_); rintro e w5 ⟨rfl, hb5⟩; have hB5 := bel2' hB4 hb5; have B05 := Lib.hid (B04.out.keep hb5); have S5 := Lib.hid B05.out.three)))
      all_goals
        obtain ⟨d0, d1, d2⟩ := S5.out
        go_wp2_with fail
        go_ret
        refine ⟨?_, hB5⟩
        rw [← HR.out, ← HS1.out]
        unfold ratB
        rw [if_pos H1.out]
        have e45 : (⟨#[45]⟩ : ByteArray) = ⟨([45] : List UInt8).toArray⟩ := rfl
        rw [e45]
        simp only [bs_app]
        simp
  · have H1 := Lib.hid h1
    clear h1
    cases nneg
    · go_enter Tryd.func22, Tryd.ntmps22
      go_wp2_with (go_at_call 57; ((with_reducible refine (TN.out _ hBd).mono ?_); rintro e w3 ⟨rfl, hb3⟩; have hB3 := bel2' hBd hb3; have B03 := Lib.hid (B0.out.keep hb3); have S3 := Lib.hid B03.out.drew.three; obtain ⟨c0, c1, c2⟩ := B03.out.three))
      go_region_held3 (fun w' => w'.cell? ⟨w.heap.size, 0, none⟩ = some (.bool false) ∧ w'.cell? ⟨w.heap.size, 1, none⟩ = some (.slice p1 l1 k1) ∧ w'.cell? ⟨w.heap.size, 2, none⟩ = some (.slice p2 l2 k2))
        (first | exact S3.out | exact S4.out | exact S5.out)
        (first
          | (go_at_call 58; ((with_reducible refine (SM.out _).mono ?_); rintro e w4 ⟨v4, rfl, hv4, hf4, hb4⟩; have hB4 := bel2' hB3.drew hb4; have B04 := Lib.hid (B03.out.drew.keep hb4); have S4 := Lib.hid B04.out.three))
          | (go_at_call 51; ((with_reducible refine (CM.out _ _ hB4 hv4).mono ?_); rintro e w5 ⟨rfl, hb5⟩; have hB5 := bel2' hB4 hb5; have B05 := Lib.hid (B04.out.keep hb5); have S5 := Lib.hid B05.out.three)))
      all_goals
        obtain ⟨d0, d1, d2⟩ := S5.out
        go_wp2_with (go_at_call 57; ((with_reducible refine (TD.out _ hB5).mono ?_); rintro e w6 ⟨rfl, hb6⟩; have hB6 := bel2' hB5 hb6))
        go_ret
        refine ⟨?_, hB6⟩
        rw [← HR.out, ← HS1.out, ← HS2.out]
        unfold ratB
        rw [if_neg H1.out]
        have e47 : (⟨#[47]⟩ : ByteArray) = ⟨([47] : List UInt8).toArray⟩ := rfl
        rw [e47]
        simp only [bs_app]
        simp
    · go_enter Tryd.func22, Tryd.ntmps22
      go_wp2_with (go_at_call 57; ((with_reducible refine (TN.out _ hBd).mono ?_); rintro e w3 ⟨rfl, hb3⟩; have hB3 := bel2' hBd hb3; have B03 := Lib.hid (B0.out.keep hb3); have S3 := Lib.hid B03.out.drew.three; obtain ⟨c0, c1, c2⟩ := B03.out.three))
      go_region_held3 (fun w' => w'.cell? ⟨w.heap.size, 0, none⟩ = some (.bool true) ∧ w'.cell? ⟨w.heap.size, 1, none⟩ = some (.slice p1 l1 k1) ∧ w'.cell? ⟨w.heap.size, 2, none⟩ = some (.slice p2 l2 k2))
        (first | exact S3.out | exact S4.out | exact S5.out)
        (first
          | (go_at_call 58; ((with_reducible refine (SM.out _).mono ?_); rintro e w4 ⟨v4, rfl, hv4, hf4, hb4⟩; have hB4 := bel2' hB3.drew hb4; have B04 := Lib.hid (B03.out.drew.keep hb4); have S4 := Lib.hid B04.out.three))
          | (go_at_call 51; ((with_reducible refine (CM.out _ _ hB4 hv4).mono ?_); rintro e w5 ⟨rfl, hb5⟩; have hB5 := bel2' hB4 hb5; have B05 := Lib.hid (B04.out.keep hb5); have S5 := Lib.hid B05.out.three)))
      all_goals
        obtain ⟨d0, d1, d2⟩ := S5.out
        go_wp2_with (go_at_call 57; ((with_reducible refine (TD.out _ hB5).mono ?_); rintro e w6 ⟨rfl, hb6⟩; have hB6 := bel2' hB5 hb6))
        go_ret
        refine ⟨?_, hB6⟩
        rw [← HR.out, ← HS1.out, ← HS2.out]
        unfold ratB
        rw [if_neg H1.out]
        have e45 : (⟨#[45]⟩ : ByteArray) = ⟨([45] : List UInt8).toArray⟩ := rfl
        rw [e45]
        have e47 : (⟨#[47]⟩ : ByteArray) = ⟨([47] : List UInt8).toArray⟩ := rfl
        rw [e47]
        simp only [bs_app]
        simp

end Go.Proofs.YtcbocdkpdedogaaDoor
