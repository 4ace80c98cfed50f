/- Confirmed for what is no risk limit. -/
import Derived.Test.YtlhkjkhbgebgiaaS4
import Derived.Deep.RegionHeld3
namespace Go.Proofs.Ytlhkjkhbgebgiaa
open Go.RowKit Go.Proofs.Kit Go.Proofs.Nums

set_option maxRecDepth 100000 in
set_option maxHeartbeats 8000000 in
theorem conf4_bad {H : Nat} {w : World} {v : Value} {neg : Bool} {a b : List Nat} (hr : RatL w v neg a b) (ha : a.length ≤ 4) (hb : b.length ≤ 4) (hg : gokR neg a b = false) :
    Calls Try.prog 14 #[.pointer (some ⟨H, 0, none⟩), v] w fun e w' => e = .returned (.bool false) ∧ Below w.heap.size w w' := by
  have hr2 := hr
  obtain ⟨vn, vd, rfl, gn, gd⟩ := hr
  obtain ⟨p1, k1, rfl⟩ := gn.shape
  obtain ⟨p2, k2, rfl⟩ := gd.shape
  obtain ⟨vv, hvv⟩ : ∃ t, validR neg a b = t := ⟨_, rfl⟩
  obtain ⟨c1, hc1⟩ : ∃ c, Q.cmp ⟨neg, val a, val b⟩ (Q.of 0) = c := ⟨_, rfl⟩
  obtain ⟨c2, hc2⟩ : ∃ c, Q.cmp ⟨neg, val a, val b⟩ (Q.of 1) = c := ⟨_, rfl⟩
  have VA : Hid (∀ w', Below w.heap.size w w' → Calls Try.prog 26 #[.agg #[.bool neg, .slice p1 a.length k1, .slice p2 b.length k2]] w' fun e w'' => e = .returned (.bool vv) ∧ Below w'.heap.size w' w'') := Lib.hid (fun w' h => by
    rw [← hvv]
    exact valid_r (L := 4) (hr2.keep h) ha hb (by omega) (by omega))
  have O0 : Hid (∀ w, Calls Try.prog 28 #[.int .i64 0] w (GivesN (Q.of 0) 4 w)) := Lib.hid (fun w => gn_of (of_r (z := 0) (by omega) (by omega) (by omega) (by omega)))
  have O1 : Hid (∀ w, Calls Try.prog 28 #[.int .i64 1] w (GivesN (Q.of 1) 4 w)) := Lib.hid (fun w => gn_of (of_r (z := 1) (by omega) (by omega) (by omega) (by omega)))
  have CM0 : Hid (∀ v w', Below w.heap.size w w' → RatN w' v (Q.of 0) 4 → Calls Try.prog 27 #[.agg #[.bool neg, .slice p1 a.length k1, .slice p2 b.length k2], v] w' fun e w'' => e = .returned (.int .i64 c1) ∧ Below w'.heap.size w' w'') := Lib.hid (fun v w' h g => by
    have := cmp_r ((hr2.keep h).at ha hb) g.at (by omega) (by omega)
    rw [hc1] at this
    exact this)
  have CM1 : Hid (∀ v w', Below w.heap.size w w' → RatN w' v (Q.of 1) 4 → Calls Try.prog 27 #[.agg #[.bool neg, .slice p1 a.length k1, .slice p2 b.length k2], v] w' fun e w'' => e = .returned (.int .i64 c2) ∧ Below w'.heap.size w' w'') := Lib.hid (fun v w' h g => by
    have := cmp_r ((hr2.keep h).at ha hb) g.at (by omega) (by omega)
    rw [hc2] at this
    exact this)
  have hgok : vv = false ∨ c1 ≤ 0 ∨ 0 < c2 := by
    unfold gokR at hg
    rw [hvv, hc1, hc2] at hg
    cases vv
    · exact .inl rfl
    · right
      rcases Int.lt_or_le 0 c1 with h | h
      · right
        rw [decide_eq_true h] at hg
        have : decide (c2 ≤ 0) = false := by simpa using hg
        have := of_decide_eq_false this
        omega
      · exact .inl h
  obtain ⟨l1, hl1⟩ : ∃ l, a.length = l := ⟨_, rfl⟩
  obtain ⟨l2, hl2⟩ : ∃ l, b.length = l := ⟨_, rfl⟩
  rw [hl1, hl2] at VA CM0 CM1
  rw [hl1, hl2]
  clear hr2 gn gd ha hb hg hvv hc1 hc2 hl1 hl2
  have br := (Blk.new w #[.bool neg, .slice p1 l1 k1, .slice p2 l2 k2] 30).drew
  have hBd : Below w.heap.size w (w.alloc (.cells #[.bool neg, .slice p1 l1 k1, .slice p2 l2 k2] 30)).drew := ((Below.refl _ _).alloc (Nat.le_refl _) _).drew
  cases vv
  · clear hgok
    go_enter Try.func14, Try.ntmps14
    go_wp2_with fail
    revert br hBd
    generalize (w.alloc (.cells #[.bool neg, .slice p1 l1 k1, .slice p2 l2 k2] 30)) = W
    intro br hB0
    have BR := Lib.hid br
    obtain ⟨r0, r1, r2⟩ := br.three
    clear br
    go_region_with (first
        | (go_at_call 26; ((with_reducible refine (VA.out _ hB0).mono ?_); rintro e w1 ⟨rfl, hb1⟩; have hB1 := bel2' hB0 hb1; have BR1 := Lib.hid (BR.out.keep hb1); obtain ⟨s10, s11, s12⟩ := BR1.out.three)))
    all_goals
      go_wp2_with fail
      go_ret
      exact ⟨rfl, by first | exact hB1.drew | exact hB1⟩
  · rcases Int.lt_or_le 0 c1 with h1 | h1
    · have h2 : 0 < c2 := by
        rcases hgok with h | h | h
        · cases h
        · omega
        · exact h
      have d1 : decide (c1 ≤ (0 : Int)) = false := decide_eq_false (by omega)
      have d2 : decide ((0 : Int) < c2) = true := decide_eq_true h2
      clear hgok
      go_enter Try.func14, Try.ntmps14
      go_wp2_with fail
      revert br hBd
      generalize (w.alloc (.cells #[.bool neg, .slice p1 l1 k1, .slice p2 l2 k2] 30)) = W
      intro br hB0
      have BR := Lib.hid br
      obtain ⟨r0, r1, r2⟩ := br.three
      clear br
      go_region_with (first
          | (go_at_call 26; ((with_reducible refine (VA.out _ hB0).mono ?_); rintro e w1 ⟨rfl, hb1⟩; have hB1 := bel2' hB0 hb1; have BR1 := Lib.hid (BR.out.keep hb1); obtain ⟨s10, s11, s12⟩ := BR1.out.three))
          | (go_at_call 28; ((with_reducible refine (O0.out _).mono ?_); rintro e w2 ⟨p3, l3, k3, p4, l4, k4, rfl, hv2, hb2⟩; have hB2 := bel2' hB1 hb2; have BR2 := Lib.hid (BR1.out.keep hb2); obtain ⟨s20, s21, s22⟩ := BR2.out.three))
          | (go_at_call 27; ((with_reducible refine (CM0.out _ _ hB2 hv2).mono ?_); rintro e w3 ⟨rfl, hb3⟩; have hB3 := bel2' hB2 hb3; have BR3 := Lib.hid (BR2.out.keep hb3); obtain ⟨s30, s31, s32⟩ := BR3.out.three))
          | (go_at_call 28; ((with_reducible refine (O1.out _).mono ?_); rintro e w4 ⟨p5, l5, k5, p6, l6, k6, rfl, hv4, hb4⟩; have hB4 := bel2' hB3 hb4; have BR4 := Lib.hid (BR3.out.keep hb4); obtain ⟨s40, s41, s42⟩ := BR4.out.three))
          | (go_at_call 27; ((with_reducible refine (CM1.out _ _ hB4 hv4).mono ?_); rintro e w5 ⟨rfl, hb5⟩; have hB5 := bel2' hB4 hb5; have BR5 := Lib.hid (BR4.out.keep hb5); obtain ⟨s50, s51, s52⟩ := BR5.out.three)))
      all_goals
        go_wp2_with fail
        go_ret
        exact ⟨rfl, by first | exact hB5.drew | exact hB5⟩
    · have d1 : decide (c1 ≤ (0 : Int)) = true := decide_eq_true h1
      clear hgok
      go_enter Try.func14, Try.ntmps14
      go_wp2_with fail
      revert br hBd
      generalize (w.alloc (.cells #[.bool neg, .slice p1 l1 k1, .slice p2 l2 k2] 30)) = W
      intro br hB0
      have BR := Lib.hid br
      obtain ⟨r0, r1, r2⟩ := br.three
      clear br
      go_region_with (first
          | (go_at_call 26; ((with_reducible refine (VA.out _ hB0).mono ?_); rintro e w1 ⟨rfl, hb1⟩; have hB1 := bel2' hB0 hb1; have BR1 := Lib.hid (BR.out.keep hb1); obtain ⟨s10, s11, s12⟩ := BR1.out.three))
          | (go_at_call 28; ((with_reducible refine (O0.out _).mono ?_); rintro e w2 ⟨p3, l3, k3, p4, l4, k4, rfl, hv2, hb2⟩; have hB2 := bel2' hB1 hb2; have BR2 := Lib.hid (BR1.out.keep hb2); obtain ⟨s20, s21, s22⟩ := BR2.out.three))
          | (go_at_call 27; ((with_reducible refine (CM0.out _ _ hB2 hv2).mono ?_); rintro e w3 ⟨rfl, hb3⟩; have hB3 := bel2' hB2 hb3; have BR3 := Lib.hid (BR2.out.keep hb3); obtain ⟨s30, s31, s32⟩ := BR3.out.three)))
      all_goals
        go_wp2_with fail
        go_ret
        exact ⟨rfl, by first | exact hB3.drew | exact hB3⟩

end Go.Proofs.Ytlhkjkhbgebgiaa
