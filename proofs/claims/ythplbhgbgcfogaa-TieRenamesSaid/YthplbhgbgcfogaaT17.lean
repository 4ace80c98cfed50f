/- Awake. -/
import Derived.Test.YthplbhgbgcfogaaT14
import Derived.Test.YthplbhgbgcfogaaT16
namespace Go.Proofs.Ythplbhgbgcfogaa
open Go.RowKit Go.Proofs.Kit Go.Proofs.Nums

theorem ints_lit (w : World) (l : List Int) (h : l.length ≤ 1000) : IntsAt (w.alloc (.cells (l.map (Value.int .i64)).toArray 3)) (.slice (some ⟨w.heap.size, 0, none⟩) l.length l.length) l := by
  have := World.ownsRow_lit (base := w.heap.size) (e := 3) (size := 1) w (l.map (Value.int .i64)).toArray l.length (Nat.le_refl _) (by unfold maxLen; omega) (by simp)
  exact RowAt.owned (by simpa using this)
theorem rounds_two {w : World} {v1 v2 : Value} {q1 q2 : List Q} (h1 : RatsAt w v1 q1) (h2 : RatsAt w v2 q2) (e : TypeId) : RoundsAt (w.alloc (.cells #[v1, v2] e)) (.slice (some ⟨w.heap.size, 0, none⟩) 2 2) [q1, q2] := by
  have hb : Below w.heap.size w (w.alloc (.cells #[v1, v2] e)) := (Below.refl _ _).alloc (Nat.le_refl _) _
  have g1 := h1.keep hb
  have g2 := h2.keep hb
  have hsz : ∀ c ∈ [[v1], [v2]], c.length = 1 := by
    intro c hc
    rcases List.mem_cons.1 hc with rfl | hc
    · rfl
    · rw [List.mem_singleton.1 hc]; rfl
  refine ⟨[[v1], [v2]], _, 2, rfl, Nat.le_refl _, by omega, (fun h => by cases h), rfl, hsz, (fun q hq i c j u hi hj => ?_), (fun i c x hi hx => ?_)⟩
  · obtain rfl := Option.some.inj hq
    exact alloc_cell w #[v1, v2] e _ _ u (flat_at hsz hi hj)
  · match i, hi, hx with
    | 0, hi, hx => simp only [List.getElem?_cons_zero, Option.some.injEq] at hi hx; subst hi; subst hx; exact ⟨_, rfl, g1⟩
    | 1, hi, hx => simp only [List.getElem?_cons_succ, List.getElem?_cons_zero, Option.some.injEq] at hi hx; subst hi; subst hx; exact ⟨_, rfl, g2⟩
    | _ + 2, hi, hx => simp at hi

theorem wh_lit (a b c : Int) (h1 : 0 ≤ a ∧ a ≤ 1000) (h2 : 0 ≤ b ∧ b ≤ 1000) (h3 : 0 ≤ c ∧ c ≤ 1000) (w : World) :
    Calls Try.prog 18 #[.slice (some ⟨w.heap.size, 0, none⟩) 3 3] (w.alloc (.cells #[.int .i64 a, .int .i64 b, .int .i64 c] 3)) fun e w' => ∃ v', e = .returned v' ∧ RatsAt w' v' (wholesS [a, b, c]) ∧ Below w.heap.size w w' := by
  have h := ints_lit w [a, b, c] (by simp)
  refine (wholes_c h (fun x hx => ?_) (by simp)).mono ?_
  · simp only [List.mem_cons, List.not_mem_nil, or_false] at hx
    omega
  · rintro e w' ⟨v', rfl, ⟨css, g⟩, hb⟩
    exact ⟨v', rfl, g.slice, below_new (hb.mono (by simp))⟩

set_option maxRecDepth 100000 in
set_option maxHeartbeats 4000000 in
theorem awake_c (w : World) : Calls Try.prog 8 #[] w fun e w' => e = .returned (.bool true) ∧ Below w.heap.size w w' := by
  have W1 := Lib.hid (wh_lit 2 3 5 (by omega) (by omega) (by omega))
  have W2 := Lib.hid (wh_lit 4 4 6 (by omega) (by omega) (by omega))
  obtain ⟨q1, hq1⟩ : ∃ q, wholesS [2, 3, 5] = q := ⟨_, rfl⟩
  obtain ⟨q2, hq2⟩ : ∃ q, wholesS [4, 4, 6] = q := ⟨_, rfl⟩
  have B1 : Hid (∀ w v1 v2, RatsAt w v1 q1 → RatsAt w v2 q2 → Calls Try.prog 13 #[.int .i64 1, .slice (some ⟨w.heap.size, 0, none⟩) 2 2, .slice (some ⟨w.heap.size + 1, 0, none⟩) 2 2, .slice (some ⟨w.heap.size + 1 + 1, 0, none⟩) 3 3, .bool false] (((w.alloc (.cells #[v1, v2] 34)).alloc (.cells #[.int .i64 0, .int .i64 1] 3)).alloc (.cells #[.int .i64 1, .int .i64 0, .int .i64 2] 3)) fun e w' => e = .returned (.tuple #[.int .i64 1, .bool false]) ∧ RoundsAt w' (.slice (some ⟨w.heap.size, 0, none⟩) 2 2) [q1, q2] ∧ Below w.heap.size w w') := Lib.hid (fun w v1 v2 h1 h2 => by
    obtain ⟨wa, hwa⟩ : ∃ x, w.alloc (.cells #[v1, v2] 34) = x := ⟨_, rfl⟩
    have ba : Below w.heap.size w wa := by rw [← hwa]; exact bal (Below.refl _ _) _
    have sa : wa.heap.size = w.heap.size + 1 := by rw [← hwa]; simp
    have ra : RoundsAt wa (.slice (some ⟨w.heap.size, 0, none⟩) 2 2) [q1, q2] := by rw [← hwa]; exact rounds_two h1 h2 _
    rw [hwa, ← sa]
    obtain ⟨wb, hwb⟩ : ∃ x, wa.alloc (.cells #[.int .i64 0, .int .i64 1] 3) = x := ⟨_, rfl⟩
    have bb : Below wa.heap.size wa wb := by rw [← hwb]; exact bal (Below.refl _ _) _
    have sb : wb.heap.size = wa.heap.size + 1 := by rw [← hwb]; simp
    have rb : IntsAt wb (.slice (some ⟨wa.heap.size, 0, none⟩) 2 2) [0, 1] := by rw [← hwb]; exact ints_lit wa [0, 1] (by simp)
    rw [hwb, ← sb]
    obtain ⟨wc, hwc⟩ : ∃ x, wb.alloc (.cells #[.int .i64 1, .int .i64 0, .int .i64 2] 3) = x := ⟨_, rfl⟩
    have bc : Below wb.heap.size wb wc := by rw [← hwc]; exact bal (Below.refl _ _) _
    have rc : IntsAt wc (.slice (some ⟨wb.heap.size, 0, none⟩) 3 3) [1, 0, 2] := by rw [← hwc]; exact ints_lit wb [1, 0, 2] (by simp)
    rw [hwc]
    have hbr : breakS 1 [q1, q2] [0, 1] [1, 0, 2] false = (1, false) := by rw [← hq1, ← hq2]; decide +kernel
    refine (tbreak_c ((ra.keep bb).keep bc) (rb.keep bc) rc 1 false).mono ?_
    rintro e w' ⟨rfl, hb⟩
    rw [hbr]
    exact ⟨rfl, ((ra.keep bb).keep bc).keep hb, bel2' (bel2' (bel2' ba bb) bc) hb⟩)
  have B2 : Hid (∀ w v, RoundsAt w v [q1, q2] → Calls Try.prog 13 #[.int .i64 3, v, .slice (some ⟨w.heap.size, 0, none⟩) 2 2, .slice (some ⟨w.heap.size + 1, 0, none⟩) 3 3, .bool true] ((w.alloc (.cells #[.int .i64 0, .int .i64 1] 3)).alloc (.cells #[.int .i64 1, .int .i64 0, .int .i64 2] 3)) fun e w' => e = .returned (.tuple #[.int .i64 0, .bool true]) ∧ Below w.heap.size w w') := Lib.hid (fun wa v ra => by
    obtain ⟨wb, hwb⟩ : ∃ x, wa.alloc (.cells #[.int .i64 0, .int .i64 1] 3) = x := ⟨_, rfl⟩
    have bb : Below wa.heap.size wa wb := by rw [← hwb]; exact bal (Below.refl _ _) _
    have sb : wb.heap.size = wa.heap.size + 1 := by rw [← hwb]; simp
    have rb : IntsAt wb (.slice (some ⟨wa.heap.size, 0, none⟩) 2 2) [0, 1] := by rw [← hwb]; exact ints_lit wa [0, 1] (by simp)
    rw [hwb, ← sb]
    obtain ⟨wc, hwc⟩ : ∃ x, wb.alloc (.cells #[.int .i64 1, .int .i64 0, .int .i64 2] 3) = x := ⟨_, rfl⟩
    have bc : Below wb.heap.size wb wc := by rw [← hwc]; exact bal (Below.refl _ _) _
    have rc : IntsAt wc (.slice (some ⟨wb.heap.size, 0, none⟩) 3 3) [1, 0, 2] := by rw [← hwc]; exact ints_lit wb [1, 0, 2] (by simp)
    rw [hwc]
    have hbr : breakS 3 [q1, q2] [0, 1] [1, 0, 2] true = (0, true) := by rw [← hq1, ← hq2]; decide +kernel
    refine (tbreak_c ((ra.keep bb).keep bc) (rb.keep bc) rc 3 true).mono ?_
    rintro e w' ⟨rfl, hb⟩
    rw [hbr]
    exact ⟨rfl, bel2' (bel2' bb bc) hb⟩)
  rw [hq1] at W1
  rw [hq2] at W2
  clear hq1 hq2
  go_enter Try.func8, Try.ntmps8
  go_wp2_with (first
    | (go_at_call 18; ((with_reducible refine (W1.out _).mono ?_); rintro e w1 ⟨v1, rfl, h1, hb1⟩; obtain ⟨x1, y1, z1, rfl⟩ := h1.sl))
    | (go_at_call 18; ((with_reducible refine (W2.out _).mono ?_); rintro e w2 ⟨v2, rfl, h2, hb2⟩; obtain ⟨x2, y2, z2, rfl⟩ := h2.sl; have g1 := h1.keep hb2; have hB2 := bel2' hb1 hb2))
    | (go_at_call 13; ((with_reducible refine (B1.out _ _ _ g1 h2).mono ?_); rintro e w3 ⟨rfl, h3, hb3⟩; have hB3 := bel2' hB2 hb3))
    | (go_at_call 13; ((with_reducible refine (B2.out _ _ h3).mono ?_); rintro e w4 ⟨rfl, hb4⟩; have hB4 := bel2' hB3 hb4)))
  go_ret
  exact ⟨rfl, hB4⟩

end Go.Proofs.Ythplbhgbgcfogaa
