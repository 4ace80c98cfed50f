/- The reference's Tie. -/
import Derived.Test.YthplbhgbgcfogaaT9
namespace Go.Proofs.Ythplbhgbgcfogaa
open Go.RowKit Go.Proofs.Kit Go.Proofs.Nums

set_option maxRecDepth 100000 in
set_option maxHeartbeats 4000000 in
theorem rtie_c {vt vl : Value} {tied lots : List Int} {w : World} (ht : IntsAt w vt tied) (hl : IntsAt w vl lots) (rule : Int) :
    Calls Try.prog 16 #[.int .i64 rule, vt, vl] w fun e w' => e = .returned (.bool (validS rule tied lots)) ∧ Below w.heap.size w w' := by
  have T := Lib.hid ht
  have htm := ht.len
  have hlm := hl.len
  have PE : Hid (∀ w', Below w.heap.size w w' → Calls Try.prog 34 #[.int .i64 lots.length, vl] w' fun e w'' => e = .returned (.bool (balS lots.length lots)) ∧ Below w'.heap.size w' w'') := Lib.hid (fun w' hb => permutation_c (hl.keep hb))
  have BA : Hid (∀ w', Below w.heap.size w w' → Calls Try.prog 35 #[.int .i64 lots.length, vt] w' fun e w'' => e = .returned (.bool (balS lots.length tied)) ∧ Below w'.heap.size w' w'') := Lib.hid (fun w' hb => ballot_c (ht.keep hb) lots.length)
  obtain ⟨p, c, rfl⟩ := ht.shape
  obtain ⟨p', c', rfl⟩ := hl.shape
  obtain ⟨r, hr⟩ : ∃ r, validS rule tied lots = r := ⟨_, rfl⟩
  have HRT := Lib.hid (fun h => (by rw [← hr]; exact (valid_eq _ _ _).2 h : r = true))
  have HRF := Lib.hid (fun h => (by rw [← hr]; exact valid_false h : r = false))
  rw [hr]
  have HTN : Hid (tied.length ≠ 0 → tied ≠ []) := Lib.hid (fun h g => h (by rw [g]; rfl))
  have HTZ : Hid (tied.length = 0 → ¬ tied ≠ []) := Lib.hid (fun h g => g (List.eq_nil_of_length_eq_zero h))
  obtain ⟨len, hlen⟩ : ∃ n, tied.length = n := ⟨_, rfl⟩
  obtain ⟨nl, hnl⟩ : ∃ n, lots.length = n := ⟨_, rfl⟩
  have HN := Lib.hid hlen
  rw [hlen] at htm T HTN HTZ BA ⊢
  rw [hnl] at hlm PE BA HRT HRF ⊢
  clear ht hl hr hlen hnl
  by_cases c1 : rule < 1
  · have HX : Hid (r = false) := Lib.hid (HRF.out (fun h => by have := h.1.1; omega))
    have d1 : decide (rule < 1) = true := decide_eq_true c1
    go_enter Try.func16, Try.ntmps16
    go_wp2_with fail
    go_ret
    exact ⟨ret_bb HX.out.symm, Below.refl _ _⟩
  have d1 : decide (rule < 1) = false := decide_eq_false c1
  by_cases c2 : 3 < rule
  · have HX : Hid (r = false) := Lib.hid (HRF.out (fun h => by have := h.1.2.1; omega))
    have d2 : decide (3 < rule) = true := decide_eq_true c2
    go_enter Try.func16, Try.ntmps16
    go_wp2_with fail
    go_ret
    exact ⟨ret_bb HX.out.symm, Below.refl _ _⟩
  have d2 : decide (3 < rule) = false := decide_eq_false c2
  by_cases c3 : (nl : Int) < 1
  · have HX : Hid (r = false) := Lib.hid (HRF.out (fun h => by have := h.1.2.2.1; omega))
    have d3 : decide ((nl : Int) < 1) = true := decide_eq_true c3
    go_enter Try.func16, Try.ntmps16
    go_wp2_with fail
    go_ret
    exact ⟨ret_bb HX.out.symm, Below.refl _ _⟩
  have d3 : decide ((nl : Int) < 1) = false := decide_eq_false c3
  by_cases c4 : 7 < (nl : Int)
  · have HX : Hid (r = false) := Lib.hid (HRF.out (fun h => by have := h.1.2.2.2; omega))
    have d4 : decide (7 < (nl : Int)) = true := decide_eq_true c4
    go_enter Try.func16, Try.ntmps16
    go_wp2_with fail
    go_ret
    exact ⟨ret_bb HX.out.symm, Below.refl _ _⟩
  have d4 : decide (7 < (nl : Int)) = false := decide_eq_false c4
  cases hb1 : balS nl lots
  · have HX : Hid (r = false) := Lib.hid (HRF.out (fun h => by unfold balS at hb1; exact absurd h.2.1 (of_decide_eq_false hb1)))
    rw [hb1] at PE
    clear hb1
    go_enter Try.func16, Try.ntmps16
    go_wp2_with (go_at_call 34; ((with_reducible refine (PE.out _ (Below.refl _ _)).mono ?_); rintro e w1 ⟨rfl, hb1⟩))
    go_ret
    exact ⟨ret_bb HX.out.symm, hb1⟩
  have HB1 : Hid (BalP nl lots) := Lib.hid (of_decide_eq_true hb1)
  rw [hb1] at PE
  clear hb1
  by_cases c5 : len = 0
  · have HX : Hid (r = false) := Lib.hid (HRF.out (fun h => HTZ.out c5 h.2.2.1))
    subst c5
    go_enter Try.func16, Try.ntmps16
    go_wp2_with (go_at_call 34; ((with_reducible refine (PE.out _ (Below.refl _ _)).mono ?_); rintro e w1 ⟨rfl, hb1⟩))
    go_ret
    exact ⟨ret_bb HX.out.symm, hb1⟩
  have d5 : ((len : Int) == 0) = false := by rw [beq_eq_false_iff_ne]; omega
  cases hb2 : balS nl tied
  · have HX : Hid (r = false) := Lib.hid (HRF.out (fun h => by unfold balS at hb2; exact absurd h.2.2.2.1 (of_decide_eq_false hb2)))
    rw [hb2] at BA
    clear hb2
    go_enter Try.func16, Try.ntmps16
    go_wp2_with (first
      | (go_at_call 34; ((with_reducible refine (PE.out _ (Below.refl _ _)).mono ?_); rintro e w1 ⟨rfl, hb1⟩))
      | (go_at_call 35; ((with_reducible refine (BA.out _ hb1).mono ?_); rintro e w2 ⟨rfl, hb2⟩; have hB2 := bel2' hb1 hb2)))
    go_ret
    exact ⟨ret_bb HX.out.symm, hB2⟩
  have HB2 : Hid (BalP nl tied) := Lib.hid (of_decide_eq_true hb2)
  rw [hb2] at BA
  have HRT : Hid (tied.Pairwise (· < ·) → r = true) := Lib.hid (fun h => HRT.out ⟨⟨by omega, by omega, by omega, by omega⟩, HB1.out, HTN.out c5, HB2.out, h⟩)
  have HRF : Hid (¬ tied.Pairwise (· < ·) → r = false) := Lib.hid (fun h => HRF.out (fun g => h g.2.2.2.2))
  clear hb2
  go_enter Try.func16, Try.ntmps16
  go_wp2_with (first
    | (go_at_call 34; ((with_reducible refine (PE.out _ (Below.refl _ _)).mono ?_); rintro e w1 ⟨rfl, hb1⟩))
    | (go_at_call 35; ((with_reducible refine (BA.out _ hb1).mono ?_); rintro e w2 ⟨rfl, hb2⟩; have hB2 := bel2' hb1 hb2)))
  go_loopw [7] (fun iv wr => ∃ k : Nat, k + 1 ≤ len ∧ iv = .int .i64 ((k + 1 : Nat) : Int) ∧ Below w.heap.size w wr ∧ Hid ((tied.take (k + 1)).Pairwise (· < ·))) (fun iv _ => len - (intOf iv).toNat)
  case atStart => exact ⟨0, by omega, rfl, hB2, Lib.hid (pair_one _)⟩
  case round =>
    obtain ⟨k, hk, rfl, hbel, hP⟩ := hrel
    by_cases hlt : k + 1 < len
    · have hltz : ((k + 1 : Nat) : Int) < (len : Int) := by omega
      have hltz' : (k : Int) + 1 < (len : Int) := by omega
      obtain ⟨bb, off, hp0, hc1, hc2, hcell⟩ := (T.out.keep hbel).cellAt k (by rw [HN.out]; omega)
      obtain ⟨bb2, off2, hp2, _, _, hcell2⟩ := (T.out.keep hbel).cellAt (k + 1) (by rw [HN.out]; exact hlt)
      subst hp0
      simp only [Option.some.injEq, Addr.mk.injEq, and_true] at hp2
      obtain ⟨rfl, rfl⟩ := hp2
      obtain ⟨x, hx⟩ : ∃ y, tied.getD k 0 = y := ⟨_, rfl⟩
      obtain ⟨y, hy⟩ : ∃ y, tied.getD (k + 1) 0 = y := ⟨_, rfl⟩
      rw [hx] at hcell
      rw [hy] at hcell2
      by_cases hxy : x < y
      · have HX := Lib.hid (pair_step (by rw [HN.out]; exact hlt) hx hy hP.out hxy)
        have hxy' : ¬ y ≤ x := by omega
        clear hx hy
        go_wp2_with fail
        go_quiet (fail)
        go_wp2_with fail
        go_roundw
        case rel => exact ⟨k + 1, by omega, by go_num, below_drewN hbel _, HX⟩
        case measure => simp [intOf] <;> omega
      · have HX : Hid (r = false) := Lib.hid (HRF.out (pair_no (by rw [HN.out]; exact hlt) hx hy hxy))
        have hxy' : y ≤ x := by omega
        clear hx hy
        go_wp2_with fail
        go_quiet (fail)
        go_wp2_with fail
        go_ret
        exact ⟨ret_bb HX.out.symm, below_drewN hbel _⟩
    · have hltz : ¬ ((k + 1 : Nat) : Int) < (len : Int) := by omega
      have hltz' : ¬ (k : Int) + 1 < (len : Int) := by omega
      have HX : Hid (r = true) := Lib.hid (HRT.out (by have := hP.out; rwa [List.take_of_length_le (by rw [HN.out]; omega)] at this))
      go_wp2_with fail
      go_ret
      exact ⟨ret_bb HX.out.symm, hbel⟩

end Go.Proofs.Ythplbhgbgcfogaa
