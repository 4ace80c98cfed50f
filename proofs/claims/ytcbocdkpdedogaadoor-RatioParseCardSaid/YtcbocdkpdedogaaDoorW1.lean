import Derived.Test.YtcbocdkpdedogaaDoorM26
import Derived.Test.YtcbocdkpdedogaaDoorR19
import Derived.Test.YtcbocdkpdedogaaDoorGG
namespace Go.Proofs.YtcbocdkpdedogaaDoor
open Go.RowKit Go.Proofs.Kit Go.Proofs.Nums

set_option maxRecDepth 100000 in
set_option maxHeartbeats 4000000 in
theorem walk_RatioParse {w : World} (s : ByteArray) (hs : s.size ≤ maxLen) :
    Calls Tryd.prog 5 #[.string s] w fun e w' => e = .returned (.bool true) ∧ Below w.heap.size w w' := by
  unfold maxLen at hs
  have hsz : (s.extract 0 (min (s.size : Int) 30).toNat).size ≤ 30 := by rw [ByteArray.size_extract]; omega
  obtain ⟨t, ht⟩ : ∃ t, s.extract 0 (min (s.size : Int) 30).toNat = t := ⟨_, rfl⟩
  rw [ht] at hsz
  obtain ⟨q, hq⟩ : ∃ q, ratP t.data.toList = q := ⟨_, rfl⟩
  have PA0 := fun w => parse_r t w (by omega)
  have RE0 := fun w => rread_r t w (by omega)
  rw [hq, ← ht] at PA0
  rw [hq, ← ht] at RE0
  by_cases h : okP t.data.toList = true
  · rw [ht, h] at PA0 RE0
    rw [← ht] at PA0 RE0
    obtain ⟨qn, nn, nd⟩ := q
    have PA : Hid (∀ w, Calls Tryd.prog 21 #[.string (s.extract 0 (min (s.size : Int) 30).toNat)] w fun e w' => ∃ p l k p' l' k', e = .returned (.tuple #[.agg #[.bool qn, .slice p l k, .slice p' l' k'], .bool true]) ∧ RatN w' (.agg #[.bool qn, .slice p l k, .slice p' l' k']) ⟨qn, nn, nd⟩ 16 ∧ Below w.heap.size w w') := Lib.hid (fun w => (PA0 w).mono (by
      rintro e w' ⟨g1, g2⟩
      rw [if_pos rfl] at g1
      obtain ⟨v, rfl, hv⟩ := g1
      have hv2 := hv
      obtain ⟨p1, l1, k1, p2, l2, k2, rfl, _, _⟩ := hv.shape
      exact ⟨_, _, _, _, _, _, rfl, hv2, g2⟩))
    have RE : Hid (∀ w, Calls Tryd.prog 23 #[.string (s.extract 0 (min (s.size : Int) 30).toNat)] w fun e w' => ∃ p l k p' l' k', e = .returned (.tuple #[.agg #[.bool qn, .slice p l k, .slice p' l' k'], .bool true]) ∧ RAt w' (.agg #[.bool qn, .slice p l k, .slice p' l' k']) ⟨qn, nn, nd⟩ ∧ Below w.heap.size w w') := Lib.hid (fun w => (RE0 w).mono (by
      rintro e w' ⟨⟨b, p1, l1, k1, p2, l2, k2, rfl, g1⟩, g2⟩
      have g3 := (g1 rfl).at
      have hb : b = qn := by
        obtain ⟨a1, a2, e1, _, _⟩ := g3
        simp only [Value.agg.injEq, Array.mk.injEq, List.cons.injEq, and_true, Value.bool.injEq] at e1
        exact e1.1
      subst hb
      exact ⟨_, _, _, _, _, _, rfl, g3, g2⟩))
    clear PA0 RE0 h ht hq
    go_enter Tryd.func5, Tryd.ntmps5
    go_wp2_with (first
      | (go_at_call 21; ((with_reducible refine (PA.out _).mono ?_); rintro e w1 ⟨p1, l1, k1, p2, l2, k2, rfl, hv1, hb1⟩; have hB1 := hb1.alloc hb1.size (.cells #[.bool qn, .slice p1 l1 k1, .slice p2 l2 k2] 25); have BA1 := Lib.hid (Blk.new w1 #[.bool qn, .slice p1 l1 k1, .slice p2 l2 k2] 25); have hv1b := hv1.keep ((Below.refl _ _).alloc (Nat.le_refl _) (.cells #[.bool qn, .slice p1 l1 k1, .slice p2 l2 k2] 25))))
      | (go_at_call 23; ((with_reducible refine (RE.out _).mono ?_); rintro e w2 ⟨p3, l3, k3, p4, l4, k4, rfl, hv2, hb2⟩; have hB2 := bel2' hB1 hb2; have hB2a := hB2.alloc hB2.size (.cells #[.bool qn, .slice p3 l3 k3, .slice p4 l4 k4] 30); have BA2 := Lib.hid ((BA1.out.keep hb2).alloc (.cells #[.bool qn, .slice p3 l3 k3, .slice p4 l4 k4] 30)); have BX2 := Lib.hid (Blk.new w2 #[.bool qn, .slice p3 l3 k3, .slice p4 l4 k4] 30); have hv12 := (hv1b.keep hb2).keep ((Below.refl _ _).alloc (Nat.le_refl _) (.cells #[.bool qn, .slice p3 l3 k3, .slice p4 l4 k4] 30)); have hv2b := hv2.keep ((Below.refl _ _).alloc (Nat.le_refl _) (.cells #[.bool qn, .slice p3 l3 k3, .slice p4 l4 k4] 30))))
      | (go_at_call 14; ((with_reducible refine (rawake_r _).mono ?_); rintro e w3 ⟨rfl, hb3⟩; have hB3 := bel2' hB2a hb3; have BA3 := Lib.hid (BA2.out.keep hb3); have BX3 := Lib.hid (BX2.out.keep hb3); obtain ⟨m0, m1, m2⟩ := BA3.out.three; obtain ⟨n0, n1, n2⟩ := BX3.out.three; have hv13 := hv12.keep hb3; have hv23 := hv2b.keep hb3))
      | (go_at_call 15; ((with_reducible refine (ris_r hv13 hv23 (by omega)).mono ?_); rintro e w4 ⟨rfl, hb4⟩; have hB4 := bel2' hB3 hb4)))
    go_ret
    exact ⟨rfl, hB4⟩
  · rw [Bool.not_eq_true] at h
    rw [ht, h] at PA0 RE0
    rw [← ht] at PA0 RE0
    have PA : Hid (∀ w, Calls Tryd.prog 21 #[.string (s.extract 0 (min (s.size : Int) 30).toNat)] w fun e w' => e = .returned (.tuple #[.agg #[.bool false, .slice none 0 0, .slice none 0 0], .bool false]) ∧ Below w.heap.size w w') := Lib.hid (fun w => (PA0 w).mono (by
      rintro e w' ⟨g1, g2⟩
      rw [if_neg (by simp)] at g1
      exact ⟨g1, g2⟩))
    have RE : Hid (∀ w, Calls Tryd.prog 23 #[.string (s.extract 0 (min (s.size : Int) 30).toNat)] w fun e w' => ∃ b p l k p' l' k', e = .returned (.tuple #[.agg #[.bool b, .slice p l k, .slice p' l' k'], .bool false]) ∧ Below w.heap.size w w') := Lib.hid (fun w => (RE0 w).mono (by
      rintro e w' ⟨⟨b, p1, l1, k1, p2, l2, k2, rfl, g1⟩, g2⟩
      exact ⟨_, _, _, _, _, _, _, rfl, g2⟩))
    have EQ : Hid (∀ w, Calls Tryd.prog 24 #[.agg #[.bool false, .slice none 0 0, .slice none 0 0], .agg #[.bool false, .slice none 0 0, .slice none 0 0]] w fun e w' => e = .returned (.bool true) ∧ Below w.heap.size w w') := Lib.hid (fun w => by
      have hz : RatL w (.agg #[.bool false, .slice none 0 0, .slice none 0 0]) false [] [] := ⟨_, _, rfl, NatAt.nil w, NatAt.nil w⟩
      have := req_r hz hz (by simp) (by simp) (by simp) (by simp)
      rw [eqR_self] at this
      exact this)
    clear PA0 RE0 h ht hq
    go_enter Tryd.func5, Tryd.ntmps5
    go_wp2_with (first
      | (go_at_call 21; ((with_reducible refine (PA.out _).mono ?_); rintro e w1 ⟨rfl, hb1⟩; have hB1 := hb1.alloc hb1.size (.cells #[.bool false, .slice none 0 0, .slice none 0 0] 25); have BA1 := Lib.hid (Blk.new w1 #[.bool false, .slice none 0 0, .slice none 0 0] 25)))
      | (go_at_call 23; ((with_reducible refine (RE.out _).mono ?_); rintro e w2 ⟨b3, p3, l3, k3, p4, l4, k4, rfl, hb2⟩; have hB2 := bel2' hB1 hb2; have hB2a := hB2.alloc hB2.size (.cells #[.bool b3, .slice p3 l3 k3, .slice p4 l4 k4] 30); have BA2 := Lib.hid ((BA1.out.keep hb2).alloc (.cells #[.bool b3, .slice p3 l3 k3, .slice p4 l4 k4] 30))))
      | (go_at_call 14; ((with_reducible refine (rawake_r _).mono ?_); rintro e w3 ⟨rfl, hb3⟩; have hB3 := bel2' hB2a hb3; have BA3 := Lib.hid (BA2.out.keep hb3); obtain ⟨m0, m1, m2⟩ := BA3.out.three))
      | (go_at_call 24; ((with_reducible refine (EQ.out _).mono ?_); rintro e w4 ⟨rfl, hb4⟩; have hB4 := bel2' hB3 hb4)))
    go_ret
    exact ⟨rfl, hB4⟩

end Go.Proofs.YtcbocdkpdedogaaDoor
