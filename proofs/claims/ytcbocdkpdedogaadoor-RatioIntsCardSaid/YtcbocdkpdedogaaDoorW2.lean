import Derived.Test.YtcbocdkpdedogaaDoorRT
import Derived.Test.YtcbocdkpdedogaaDoorR12b
namespace Go.Proofs.YtcbocdkpdedogaaDoor
open Go.RowKit Go.Proofs.Kit Go.Proofs.Nums

theorem Q.of_eq (z : Int) : Q.of z = ⟨decide (z < 0), z.natAbs, 1⟩ := by
  unfold Q.of
  by_cases h : z = 0
  · subst h; rfl
  · rw [Q.mk'_pos (by omega) (by omega)]
    simp
theorem Q.of_sz {z : Int} (h1 : -9223372036854775808 ≤ z) (h2 : z ≤ 9223372036854775807) : (Q.of z).Sz 64 := by
  rw [Q.of_eq]
  show (bitsN z.natAbs).length ≤ 64 ∧ (bitsN 1).length ≤ 64
  exact ⟨bits_len_le _ 64 (by omega), by decide⟩

set_option maxRecDepth 100000 in
set_option maxHeartbeats 8000000 in
theorem walk_RatioInts {w : World} (a : Int) (a1 : -9223372036854775808 ≤ a) (a2 : a ≤ 9223372036854775807) (b : Int) (b1 : -9223372036854775808 ≤ b) (b2 : b ≤ 9223372036854775807) :
    Calls Tryd.prog 6 #[.int .i64 a, .int .i64 b] w fun e w' => e = .returned (.bool true) ∧ Below w.heap.size w w' := by
  have sa := Q.of_sz a1 a2
  have sb := Q.of_sz b1 b2
  have ROA0 := fun w => gr_of (rof_r (w := w) a1 a2)
  have ROB0 := fun w => gr_of (rof_r (w := w) b1 b2)
  have OFA0 := fun w => gn_of (of_r (w := w) (L := 2) a1 a2 (by omega) (by omega))
  have FR0 := fun w => gn_of (frac_r (w := w) (L := 2) a1 a2 b1 b2 (by omega) (by omega))
  have ROZ : Hid (∀ w, Calls Tryd.prog 25 #[.int .i64 0] w (GivesR ⟨false, 0, 1⟩ w)) := Lib.hid (fun w => gr_of (rof_r (w := w) (z := 0) (by omega) (by omega)))
  have hFA : b = 0 → Q.mk' (decide (a < 0) != decide (b < 0)) a.natAbs b.natAbs = ⟨false, 0, 1⟩ := by
    intro h; subst h; exact Q.mk'_zero (.inr rfl)
  have hFB : Q.divR (Q.of a) (Q.of b) = Q.mk' (decide (a < 0) != decide (b < 0)) a.natAbs b.natAbs := by
    rw [Q.of_eq, Q.of_eq]
    unfold Q.divR
    simp only [Nat.mul_one, Nat.one_mul]
  have hlim : ∀ z : Int, -9223372036854775808 ≤ z → z ≤ 9223372036854775807 → z.natAbs < 4294967296 ^ 2 := fun z _ _ => by omega
  obtain ⟨⟨fn, fN, fD⟩, hf⟩ : ∃ q, Q.mk' (decide (a < 0) != decide (b < 0)) a.natAbs b.natAbs = q := ⟨_, rfl⟩
  rw [hf] at FR0 hFA hFB
  obtain ⟨⟨an, an', ad⟩, hqa⟩ : ∃ q, Q.of a = q := ⟨_, rfl⟩
  obtain ⟨⟨bn, bn', bd⟩, hqb⟩ : ∃ q, Q.of b = q := ⟨_, rfl⟩
  rw [hqa] at ROA0 OFA0 sa hFB
  rw [hqb] at ROB0 sb hFB
  have ROA : Hid (∀ w, Calls Tryd.prog 25 #[.int .i64 a] w (GivesR ⟨an, an', ad⟩ w)) := Lib.hid ROA0
  have ROB : Hid (∀ w, Calls Tryd.prog 25 #[.int .i64 b] w (GivesR ⟨bn, bn', bd⟩ w)) := Lib.hid ROB0
  have OFA : Hid (∀ w, Calls Tryd.prog 27 #[.int .i64 a] w (GivesN ⟨an, an', ad⟩ 2 w)) := Lib.hid OFA0
  have FR : Hid (∀ w, Calls Tryd.prog 28 #[.int .i64 a, .int .i64 b] w (GivesN ⟨fn, fN, fD⟩ 2 w)) := Lib.hid FR0
  have SA : Hid ((⟨an, an', ad⟩ : Q).Sz 10000) := Lib.hid ⟨Nat.le_trans sa.1 (by omega), Nat.le_trans sa.2 (by omega)⟩
  have SB : Hid ((⟨bn, bn', bd⟩ : Q).Sz 10000) := Lib.hid ⟨Nat.le_trans sb.1 (by omega), Nat.le_trans sb.2 (by omega)⟩
  clear ROA0 ROB0 OFA0 FR0 sa sb hqa hqb hf hlim
  have hcase : (b = 0 ∧ Hid ((⟨fn, fN, fD⟩ : Q) = ⟨false, 0, 1⟩)) ∨ ((b == 0) = false ∧ (b != 0) = true ∧ Hid (Q.divR ⟨an, an', ad⟩ ⟨bn, bn', bd⟩ = ⟨fn, fN, fD⟩)) := by
    by_cases h : b = 0
    · exact .inl ⟨h, Lib.hid (hFA h)⟩
    · exact .inr ⟨by rw [beq_eq_false_iff_ne]; exact h, by simpa using h, Lib.hid hFB⟩
  clear hFA hFB a1 a2 b1 b2
  rcases hcase with ⟨rfl, hq⟩ | ⟨h1, h2, hq⟩
  · have hq1 := hq.out
    simp only [Q.mk.injEq] at hq1
    obtain ⟨rfl, rfl, rfl⟩ := hq1
    go_enter Tryd.func6, Tryd.ntmps6
    go_wp2_with (first
      | (go_at_call 25; ((with_reducible refine (ROZ.out _).mono ?_); rintro e w3 ⟨lo3, hi3, p5, l5, k5, p6, l6, k6, rfl, hz, hlo3, hhi3, hb3⟩; have hB3 := bel2' hB2 hb3; have BX3 := Lib.hid (BX2.out.keep hb3); have BY3 := Lib.hid (BY2.out.keep hb3); have hx3 := hx2.keep hb3; have hy3 := hy2.keep hb3; obtain ⟨m0, m1, m2⟩ := (BX3.out.alloc (.cells #[.bool false, .slice p5 l5 k5, .slice p6 l6 k6] 30)).three; obtain ⟨n0, n1, n2⟩ := (BY3.out.alloc (.cells #[.bool false, .slice p5 l5 k5, .slice p6 l6 k6] 30)).three; obtain ⟨i0, i1, i2⟩ := (Blk.new w3 #[.bool false, .slice p5 l5 k5, .slice p6 l6 k6] 30).three; obtain ⟨j0, j1, j2⟩ := (Blk.new w3 #[.bool false, .slice p5 l5 k5, .slice p6 l6 k6] 30).free3))
      | (go_at_call 25; ((with_reducible refine (ROZ.out _).mono ?_); rintro e w2 ⟨lo2, hi2, p3, l3, k3, p4, l4, k4, rfl, hy, hlo2, hhi2, hb2⟩; have hB2 := bal (bal (bel2' hb1 hb2) (.cells #[.bool an, .slice p1 l1 k1, .slice p2 l2 k2] 30)) (.cells #[.bool false, .slice p3 l3 k3, .slice p4 l4 k4] 30); have BX2 := Lib.hid ((Blk.new w2 #[.bool an, .slice p1 l1 k1, .slice p2 l2 k2] 30).alloc (.cells #[.bool false, .slice p3 l3 k3, .slice p4 l4 k4] 30)); have BY2 := Lib.hid (Blk.new' (b := w2.heap.size + 1) (w2.alloc (.cells #[.bool an, .slice p1 l1 k1, .slice p2 l2 k2] 30)) #[.bool false, .slice p3 l3 k3, .slice p4 l4 k4] 30 (by simp)); have hx2 := ((hx.keep hb2).al (.cells #[.bool an, .slice p1 l1 k1, .slice p2 l2 k2] 30)).al (.cells #[.bool false, .slice p3 l3 k3, .slice p4 l4 k4] 30); have hy2 := (hy.al (.cells #[.bool an, .slice p1 l1 k1, .slice p2 l2 k2] 30)).al (.cells #[.bool false, .slice p3 l3 k3, .slice p4 l4 k4] 30)))
      | (go_at_call 25; ((with_reducible refine (ROA.out _).mono ?_); rintro e w1 ⟨lo1, hi1, p1, l1, k1, p2, l2, k2, rfl, hx, hlo1, hhi1, hb1⟩)))
    have T0 := Lib.hid (And.intro (BX3.out.alloc (.cells #[.bool false, .slice p5 l5 k5, .slice p6 l6 k6] 30)).drew (Blk.new w3 #[.bool false, .slice p5 l5 k5, .slice p6 l6 k6] 30).drew)
    have hBE := (bal hB3 (.cells #[.bool false, .slice p5 l5 k5, .slice p6 l6 k6] 30)).drew
    have hxE := (hx3.al (.cells #[.bool false, .slice p5 l5 k5, .slice p6 l6 k6] 30)).drew
    have hzE := (hz.al (.cells #[.bool false, .slice p5 l5 k5, .slice p6 l6 k6] 30)).drew
    clear m0 m1 m2 n0 n1 n2 i0 i1 i2 j0 j1 j2
    go_region_held3 (fun w' => w'.cell? ⟨w2.heap.size, 0, none⟩ = some (.bool an) ∧ w'.cell? ⟨w2.heap.size, 1, none⟩ = some (.slice p1 l1 k1) ∧ w'.cell? ⟨w2.heap.size, 2, none⟩ = some (.slice p2 l2 k2) ∧ w'.cell? ⟨w3.heap.size, 0, none⟩ = some (.bool false) ∧ w'.cell? ⟨w3.heap.size, 1, none⟩ = some (.slice p5 l5 k5) ∧ w'.cell? ⟨w3.heap.size, 2, none⟩ = some (.slice p6 l6 k6))
      (first | exact cells6 T0.out.1 T0.out.2 | exact cells6 T4.out.1 T4.out.2 | exact cells6 T5.out.1 T5.out.2 | exact cells6 T6.out.1 T6.out.2 | exact cells6 T7.out.1 T7.out.2 | exact cells6 T8.out.1 T8.out.2)
      (first
        | (go_at_call 14; ((with_reducible refine (rawake_r _).mono ?_); rintro e w4 ⟨rfl, hb4⟩; have hB4 := bel2' hBE hb4; have T4 := Lib.hid (And.intro (T0.out.1.keep hb4) (T0.out.2.keep hb4)); have hx4 := hxE.keep hb4; have hz4 := hzE.keep hb4))
        | (go_at_call 27; ((with_reducible refine (OFA.out _).mono ?_); rintro e w5 ⟨p7, l7, k7, p8, l8, k8, rfl, hr, hb5⟩; have hB5 := bel2' hB4 hb5; have T5 := Lib.hid (And.intro (T4.out.1.keep hb5) (T4.out.2.keep hb5)); have hx5 := hx4.keep hb5; have hz5 := hz4.keep hb5))
        | (go_at_call 15; ((with_reducible refine (ris_r hr hx5.at (by omega)).mono ?_); rintro e w6 ⟨rfl, hb6⟩; have hB6 := bel2' hB5 hb6; have T6 := Lib.hid (And.intro (T5.out.1.keep hb6) (T5.out.2.keep hb6)); have hz6 := hz5.keep hb6))
        | (go_at_call 28; ((with_reducible refine (FR.out _).mono ?_); rintro e w7 ⟨p9, l9, k9, p10, l10, k10, rfl, hs, hb7⟩; have hB7 := bel2' hB6 hb7; have T7 := Lib.hid (And.intro (T6.out.1.keep hb7) (T6.out.2.keep hb7)); have hz7 := hz6.keep hb7))
        | (go_at_call 15; ((with_reducible refine (ris_r hs hz7.at (by omega)).mono ?_); rintro e w8 ⟨rfl, hb8⟩; have hB8 := bel2' hB7 hb8; have T8 := Lib.hid (And.intro (T7.out.1.keep hb8) (T7.out.2.keep hb8)))))
    all_goals
      go_wp2_with fail
      go_ret
      exact ⟨rfl, hB8⟩
  · go_enter Tryd.func6, Tryd.ntmps6
    go_wp2_with (first
      | (go_at_call 25; ((with_reducible refine (ROZ.out _).mono ?_); rintro e w3 ⟨lo3, hi3, p5, l5, k5, p6, l6, k6, rfl, hz, hlo3, hhi3, hb3⟩; have hB3 := bel2' hB2 hb3; have BX3 := Lib.hid (BX2.out.keep hb3); have BY3 := Lib.hid (BY2.out.keep hb3); have hx3 := hx2.keep hb3; have hy3 := hy2.keep hb3; obtain ⟨m0, m1, m2⟩ := (BX3.out.alloc (.cells #[.bool false, .slice p5 l5 k5, .slice p6 l6 k6] 30)).three; obtain ⟨n0, n1, n2⟩ := (BY3.out.alloc (.cells #[.bool false, .slice p5 l5 k5, .slice p6 l6 k6] 30)).three; obtain ⟨i0, i1, i2⟩ := (Blk.new w3 #[.bool false, .slice p5 l5 k5, .slice p6 l6 k6] 30).three; obtain ⟨j0, j1, j2⟩ := (Blk.new w3 #[.bool false, .slice p5 l5 k5, .slice p6 l6 k6] 30).free3))
      | (go_at_call 25; ((with_reducible refine (ROB.out _).mono ?_); rintro e w2 ⟨lo2, hi2, p3, l3, k3, p4, l4, k4, rfl, hy, hlo2, hhi2, hb2⟩; have hB2 := bal (bal (bel2' hb1 hb2) (.cells #[.bool an, .slice p1 l1 k1, .slice p2 l2 k2] 30)) (.cells #[.bool bn, .slice p3 l3 k3, .slice p4 l4 k4] 30); have BX2 := Lib.hid ((Blk.new w2 #[.bool an, .slice p1 l1 k1, .slice p2 l2 k2] 30).alloc (.cells #[.bool bn, .slice p3 l3 k3, .slice p4 l4 k4] 30)); have BY2 := Lib.hid (Blk.new' (b := w2.heap.size + 1) (w2.alloc (.cells #[.bool an, .slice p1 l1 k1, .slice p2 l2 k2] 30)) #[.bool bn, .slice p3 l3 k3, .slice p4 l4 k4] 30 (by simp)); have hx2 := ((hx.keep hb2).al (.cells #[.bool an, .slice p1 l1 k1, .slice p2 l2 k2] 30)).al (.cells #[.bool bn, .slice p3 l3 k3, .slice p4 l4 k4] 30); have hy2 := (hy.al (.cells #[.bool an, .slice p1 l1 k1, .slice p2 l2 k2] 30)).al (.cells #[.bool bn, .slice p3 l3 k3, .slice p4 l4 k4] 30)))
      | (go_at_call 25; ((with_reducible refine (ROA.out _).mono ?_); rintro e w1 ⟨lo1, hi1, p1, l1, k1, p2, l2, k2, rfl, hx, hlo1, hhi1, hb1⟩))
      | (go_at_call 26; ((with_reducible refine (gr_of (rdiv_r (hx3.al (.cells #[.bool false, .slice p5 l5 k5, .slice p6 l6 k6] 30)).at (hy3.al (.cells #[.bool false, .slice p5 l5 k5, .slice p6 l6 k6] 30)).at SA.out SB.out)).mono ?_); rw [hq.out]; rintro e w10 ⟨lo9, hi9, q5, q6, q7, q8, q9, q10, rfl, hd, hlo9, hhi9, hb9⟩; have hB9 := bel2' (bal hB3 (.cells #[.bool false, .slice p5 l5 k5, .slice p6 l6 k6] 30)) hb9; have BX9 := Lib.hid ((BX3.out.alloc (.cells #[.bool false, .slice p5 l5 k5, .slice p6 l6 k6] 30)).keep hb9); have BZ9 := Lib.hid ((Blk.new w3 #[.bool false, .slice p5 l5 k5, .slice p6 l6 k6] 30).keep hb9); have hx9 := (hx3.al (.cells #[.bool false, .slice p5 l5 k5, .slice p6 l6 k6] 30)).keep hb9; obtain ⟨r0, r1, r2⟩ := BZ9.out.three; obtain ⟨t0, t1, t2⟩ := BZ9.out.free3)))
    have hne : w2.heap.size ≠ w3.heap.size := Nat.ne_of_lt (Nat.lt_of_lt_of_le (by simp only [World.size_alloc]; omega) hb3.size)
    have hz3 : w3.heap.size < lo9 := by simp at hlo9; omega
    have hx9b : w3.heap.size < lo1 ∨ hi1 ≤ w3.heap.size := by have h1 := hb2.size; have h2 := hb3.size; simp at h2; omega
    have T0 := Lib.hid (And.intro (BX9.out.put_other hne (.bool fn) (.slice q5 q6 q7) (.slice q8 q9 q10)).drew (BZ9.out.put_same (.bool fn) (.slice q5 q6 q7) (.slice q8 q9 q10)).drew)
    have hBE : Below w.heap.size w _ := (below_set3 hB9 (b := w3.heap.size) (by have h0 := hb1.size; have h1 := hb2.size; have h2 := hb3.size; simp at h2; omega) (.bool fn) (.slice q5 q6 q7) (.slice q8 q9 q10)).drew
    have hxE := (hx9.put hx9b (.bool fn) (.slice q5 q6 q7) (.slice q8 q9 q10)).drew
    have hzE := (hd.put (.inl hz3) (.bool fn) (.slice q5 q6 q7) (.slice q8 q9 q10)).drew
    clear r0 r1 r2 t0 t1 t2
    clear m0 m1 m2 n0 n1 n2 i0 i1 i2 j0 j1 j2
    go_region_held3 (fun w' => w'.cell? ⟨w2.heap.size, 0, none⟩ = some (.bool an) ∧ w'.cell? ⟨w2.heap.size, 1, none⟩ = some (.slice p1 l1 k1) ∧ w'.cell? ⟨w2.heap.size, 2, none⟩ = some (.slice p2 l2 k2) ∧ w'.cell? ⟨w3.heap.size, 0, none⟩ = some (.bool fn) ∧ w'.cell? ⟨w3.heap.size, 1, none⟩ = some (.slice q5 q6 q7) ∧ w'.cell? ⟨w3.heap.size, 2, none⟩ = some (.slice q8 q9 q10))
      (first | exact cells6 T0.out.1 T0.out.2 | exact cells6 T4.out.1 T4.out.2 | exact cells6 T5.out.1 T5.out.2 | exact cells6 T6.out.1 T6.out.2 | exact cells6 T7.out.1 T7.out.2 | exact cells6 T8.out.1 T8.out.2)
      (first
        | (go_at_call 14; ((with_reducible refine (rawake_r _).mono ?_); rintro e w4 ⟨rfl, hb4⟩; have hB4 := bel2' hBE hb4; have T4 := Lib.hid (And.intro (T0.out.1.keep hb4) (T0.out.2.keep hb4)); have hx4 := hxE.keep hb4; have hz4 := hzE.keep hb4))
        | (go_at_call 27; ((with_reducible refine (OFA.out _).mono ?_); rintro e w5 ⟨p7, l7, k7, p8, l8, k8, rfl, hr, hb5⟩; have hB5 := bel2' hB4 hb5; have T5 := Lib.hid (And.intro (T4.out.1.keep hb5) (T4.out.2.keep hb5)); have hx5 := hx4.keep hb5; have hz5 := hz4.keep hb5))
        | (go_at_call 15; ((with_reducible refine (ris_r hr hx5.at (by omega)).mono ?_); rintro e w6 ⟨rfl, hb6⟩; have hB6 := bel2' hB5 hb6; have T6 := Lib.hid (And.intro (T5.out.1.keep hb6) (T5.out.2.keep hb6)); have hz6 := hz5.keep hb6))
        | (go_at_call 28; ((with_reducible refine (FR.out _).mono ?_); rintro e w7 ⟨p9, l9, k9, p10, l10, k10, rfl, hs, hb7⟩; have hB7 := bel2' hB6 hb7; have T7 := Lib.hid (And.intro (T6.out.1.keep hb7) (T6.out.2.keep hb7)); have hz7 := hz6.keep hb7))
        | (go_at_call 15; ((with_reducible refine (ris_r hs hz7.at (by omega)).mono ?_); rintro e w8 ⟨rfl, hb8⟩; have hB8 := bel2' hB7 hb8; have T8 := Lib.hid (And.intro (T7.out.1.keep hb8) (T7.out.2.keep hb8)))))
    all_goals
      go_wp2_with fail
      go_ret
      exact ⟨rfl, hB8⟩

end Go.Proofs.YtcbocdkpdedogaaDoor
