/- What a tie is: the reference's Ballot, Permutation and Tie. -/
import Derived.Test.YthplbhgbgcfogaaT8
import Derived.BigQuiet
namespace Go.Proofs.Nums

def BalP (n : Int) (l : List Int) : Prop := (∀ c ∈ l, 0 ≤ c ∧ c < n) ∧ l.Nodup
instance (n : Int) (l : List Int) : Decidable (BalP n l) := by unfold BalP; infer_instance
def balS (n : Int) (l : List Int) : Bool := decide (BalP n l)
theorem BalP.snoc {n : Int} {l : List Int} {k : Nat} {y : Int} (h : k < l.length) (hy : l.getD k 0 = y) (hp : BalP n (l.take k)) (h0 : 0 ≤ y) (h1 : y < n) (h2 : hasB (l.take k) y = false) : BalP n (l.take (k + 1)) := by
  rw [take_snoc_i h, hy]
  refine ⟨fun c hc => ?_, ?_⟩
  · rcases List.mem_append.1 hc with g | g
    · exact hp.1 c g
    · rw [List.mem_singleton.1 g]; exact ⟨h0, h1⟩
  · rw [List.nodup_append]
    refine ⟨hp.2, by simp, fun a ha b hb e => ?_⟩
    rw [List.mem_singleton.1 hb] at e
    exact hasB_false.1 h2 (e ▸ ha)
theorem bal_no_range {n : Int} {l : List Int} {k : Nat} {y : Int} (h : k < l.length) (hy : l.getD k 0 = y) (h0 : ¬ (0 ≤ y ∧ y < n)) : ¬ BalP n l := fun g => h0 (g.1 y (mem_getD h hy))
theorem nodup_take {l : List Int} (h : l.Nodup) (k : Nat) : (l.take k).Nodup := h.sublist (List.take_sublist _ _)
theorem bal_no_dup {n : Int} {l : List Int} {k : Nat} {y : Int} (h : k < l.length) (hy : l.getD k 0 = y) (h0 : hasB (l.take k) y = true) : ¬ BalP n l := fun g => by
  have := nodup_take g.2 (k + 1)
  rw [take_snoc_i h, hy, List.nodup_append] at this
  exact this.2.2 y (hasB_true.1 h0) y (by simp) rfl
/-- Strictly rising. -/
theorem pair_snoc {p : List Int} {x : Int} (hp : p.Pairwise (· < ·)) (hne : p ≠ []) (h : p.getLast hne < x) : (p ++ [x]).Pairwise (· < ·) := by
  rw [List.pairwise_append]
  refine ⟨hp, by simp, fun a ha b hb => ?_⟩
  rw [List.mem_singleton.1 hb]
  have e := List.dropLast_concat_getLast hne
  rw [← e] at ha hp
  rcases List.mem_append.1 ha with g | g
  · have := (List.pairwise_append.1 hp).2.2 a g (p.getLast hne) (by simp)
    omega
  · rw [List.mem_singleton.1 g]; exact h
theorem pair_step {l : List Int} {k : Nat} {x y : Int} (h : k + 1 < l.length) (hx : l.getD k 0 = x) (hy : l.getD (k + 1) 0 = y) (hp : (l.take (k + 1)).Pairwise (· < ·)) (hlt : x < y) : (l.take (k + 1 + 1)).Pairwise (· < ·) := by
  rw [take_snoc_i h, hy]
  have hne : l.take (k + 1) ≠ [] := by
    intro g
    have := congrArg List.length g
    rw [List.length_take, List.length_nil] at this
    omega
  refine pair_snoc hp hne ?_
  have e : (l.take (k + 1)).getLast hne = x := by
    have h2 := take_snoc_i (l := l) (k := k) (by omega)
    rw [hx] at h2
    have h3 : (l.take (k + 1)).getLast? = some x := by rw [h2]; simp
    rw [List.getLast?_eq_some_getLast hne] at h3
    exact Option.some.inj h3
  rw [e]; exact hlt
theorem pair_no {l : List Int} {k : Nat} {x y : Int} (h : k + 1 < l.length) (hx : l.getD k 0 = x) (hy : l.getD (k + 1) 0 = y) (hlt : ¬ x < y) : ¬ l.Pairwise (· < ·) := fun g => by
  have h1 := List.pairwise_iff_getElem.1 g k (k + 1) (by omega) h (by omega)
  rw [List.getD_eq_getElem?_getD, List.getElem?_eq_getElem (by omega)] at hx
  rw [List.getD_eq_getElem?_getD, List.getElem?_eq_getElem h] at hy
  simp only [Option.getD_some] at hx hy
  rw [hx, hy] at h1
  exact hlt h1
theorem pair_one (l : List Int) : (l.take 1).Pairwise (· < ·) := by
  cases l with
  | nil => simp
  | cons a t => simp
theorem valid_eq (rule : Int) (tied lots : List Int) : validS rule tied lots = true ↔ (1 ≤ rule ∧ rule ≤ 3 ∧ 1 ≤ lots.length ∧ lots.length ≤ 7) ∧ BalP lots.length lots ∧ tied ≠ [] ∧ BalP lots.length tied ∧ tied.Pairwise (· < ·) := by
  unfold validS BalP
  rw [decide_eq_true_iff]
  constructor
  · rintro ⟨h1, h2, h3, h4, h5, h6, h7, h8, h9⟩
    exact ⟨⟨h1, h2, h3, h4⟩, ⟨h5, h6⟩, h7, ⟨h8, h9.imp fun h => by omega⟩, h9⟩
  · rintro ⟨⟨h1, h2, h3, h4⟩, ⟨h5, h6⟩, h7, ⟨h8, _⟩, h9⟩
    exact ⟨h1, h2, h3, h4, h5, h6, h7, h8, h9⟩
theorem valid_false {rule : Int} {tied lots : List Int} (h : ¬ ((1 ≤ rule ∧ rule ≤ 3 ∧ 1 ≤ lots.length ∧ lots.length ≤ 7) ∧ BalP lots.length lots ∧ tied ≠ [] ∧ BalP lots.length tied ∧ tied.Pairwise (· < ·))) : validS rule tied lots = false := by
  cases hv : validS rule tied lots with
  | false => rfl
  | true => exact absurd ((valid_eq _ _ _).1 hv) h

end Go.Proofs.Nums
namespace Go.Proofs.Ythplbhgbgcfogaa
open Go.RowKit Go.Proofs.Kit Go.Proofs.Nums

theorem IntsAt.cutTo {w : World} {p : Option Addr} {n c : Nat} {l : List Int} (h : IntsAt w (.slice p n c) l) {k : Nat} (hk : k ≤ l.length) : IntsAt w (.slice p k c) (l.take k) := by
  obtain ⟨p', cap, e2, g1, g2, g3, g4⟩ := h
  simp only [Value.slice.injEq] at e2
  obtain ⟨rfl, _, rfl⟩ := e2
  rw [List.length_map] at g1
  refine ⟨p, c, by rw [List.length_map, List.length_take, Nat.min_eq_left hk], by rw [List.length_map, List.length_take]; omega, g2, g3, fun q hq i u hi => g4 q hq i u ?_⟩
  rw [List.getElem?_map] at hi ⊢
  by_cases hlt : i < k
  · rw [List.getElem?_take_of_lt hlt] at hi; exact hi
  · rw [List.getElem?_eq_none (by rw [List.length_take]; omega)] at hi; simp at hi

set_option maxHeartbeats 4000000 in
theorem ballot_c {v : Value} {l : List Int} {w : World} (hv : IntsAt w v l) (n : Int) :
    Calls Try.prog 35 #[.int .i64 n, v] w fun e w' => e = .returned (.bool (balS n l)) ∧ Below w.heap.size w w' := by
  have H := Lib.hid hv
  have hlm := hv.len
  obtain ⟨p, c, rfl⟩ := hv.shape
  have hcap : l.length ≤ c := by
    obtain ⟨p', cap, e, h1, _⟩ := hv
    simp only [Value.slice.injEq] at e
    obtain ⟨_, _, rfl⟩ := e
    rw [List.length_map] at h1; exact h1
  obtain ⟨len, hlen⟩ : ∃ n, l.length = n := ⟨_, rfl⟩
  have HN := Lib.hid hlen
  rw [hlen] at hlm H hcap ⊢
  clear hv hlen
  obtain ⟨r, hr⟩ : ∃ r, balS n l = r := ⟨_, rfl⟩
  rw [hr]
  have HRT : Hid (BalP n l → r = true) := Lib.hid (fun h => by rw [← hr]; unfold balS; exact decide_eq_true h)
  have HRF : Hid (¬ BalP n l → r = false) := Lib.hid (fun h => by rw [← hr]; unfold balS; exact decide_eq_false h)
  clear hr
  go_enter Try.func35, Try.ntmps35
  go_wp2_with fail
  go_loopw [5] (fun iv wr => ∃ k : Nat, k ≤ len ∧ iv = .int .i64 k ∧ Below w.heap.size w wr ∧ Hid (BalP n (l.take k))) (fun iv _ => len - (intOf iv).toNat)
  case atStart => exact ⟨0, by omega, rfl, Below.refl _ _, Lib.hid ⟨fun c hc => by simp at hc, by simp⟩⟩
  case round =>
    obtain ⟨k, hk, rfl, hbel, hP⟩ := hrel
    by_cases hlt : k < len
    · have hltz : (k : Int) < (len : Int) := by omega
      obtain ⟨bb, off, hp0, hc1, hc2, hcell⟩ := (H.out.keep hbel).cellAt k (by rw [HN.out]; exact hlt)
      subst hp0
      obtain ⟨y, hy⟩ : ∃ y, l.getD k 0 = y := ⟨_, rfl⟩
      rw [hy] at hcell
      have HY := Lib.hid hy
      clear hy
      by_cases y0 : y < 0
      · have HX : Hid (r = false) := Lib.hid (HRF.out (bal_no_range (by rw [HN.out]; exact hlt) HY.out (by omega)))
        have d0 : decide (y < 0) = true := by rw [decide_eq_true_iff]; exact y0
        go_wp2_with fail
        go_quiet (fail)
        all_goals
          go_wp2_with fail
          go_ret
          exact ⟨ret_bb HX.out.symm, below_drewN hbel _⟩
      · by_cases y1 : n ≤ y
        · have HX : Hid (r = false) := Lib.hid (HRF.out (bal_no_range (by rw [HN.out]; exact hlt) HY.out (by omega)))
          have d0 : decide (y < 0) = false := by rw [decide_eq_false_iff_not]; exact y0
          have d1 : decide (n ≤ y) = true := by rw [decide_eq_true_iff]; exact y1
          go_wp2_with fail
          go_quiet (fail)
          all_goals
            go_wp2_with fail
            go_ret
            exact ⟨ret_bb HX.out.symm, below_drewN hbel _⟩
        · have d0 : decide (y < 0) = false := by rw [decide_eq_false_iff_not]; exact y0
          have d1 : decide (n ≤ y) = false := by rw [decide_eq_false_iff_not]; exact y1
          have HA : Hid (∀ q, Calls Try.prog 17 #[.slice (some ⟨bb, off, none⟩) k c, .int .i64 y] (wr.drewN q) fun e w'' => e = .returned (.bool (hasB (l.take k) y)) ∧ w'' = wr.drewN q) := Lib.hid (fun q => (has_c ((H.out.keep (below_drewN hbel q)).cutTo (by rw [HN.out]; omega)) y).mono fun _ _ ⟨h1, h2⟩ => ⟨h1, h2.symm⟩)
          have S0 : Hid (wr.drew.cell? ⟨bb, off + k, none⟩ = some (.int .i64 y)) := Lib.hid hcell
          have hbD := hbel.drew
          have kc : (k : Int) ≤ (c : Int) := by omega
          have kc0 : (0 : Int) ≤ (k : Int) := by omega
          cases hb : hasB (l.take k) y
          · rw [hb] at HA
            have HX : Hid (BalP n (l.take (k + 1))) := Lib.hid (BalP.snoc (by rw [HN.out]; exact hlt) HY.out hP.out (by omega) (by omega) hb)
            clear hb
            go_wp2_with fail
            go_quiet ((go_at_call 17; exact Calls.quiet_of_same (HA.out _)))
            all_goals
              go_wp2_with fail
              go_roundw
              case rel => exact ⟨k + 1, by omega, by go_num, below_drewN hbel _, HX⟩
              case measure => simp [intOf] <;> omega
          · rw [hb] at HA
            have HX : Hid (r = false) := Lib.hid (HRF.out (bal_no_dup (by rw [HN.out]; exact hlt) HY.out hb))
            clear hb
            go_wp2_with fail
            go_quiet ((go_at_call 17; exact Calls.quiet_of_same (HA.out _)))
            all_goals
              go_wp2_with fail
              go_ret
              exact ⟨ret_bb HX.out.symm, below_drewN hbel _⟩
    · have hltz : ¬ (k : Int) < (len : Int) := by omega
      have HX : Hid (r = true) := Lib.hid (HRT.out (by have := hP.out; rwa [List.take_of_length_le (by rw [HN.out]; omega)] at this))
      go_wp2_with fail
      go_ret
      exact ⟨ret_bb HX.out.symm, hbel⟩

set_option maxHeartbeats 1000000 in
theorem permutation_c {v : Value} {l : List Int} {w : World} (hv : IntsAt w v l) :
    Calls Try.prog 34 #[.int .i64 l.length, v] w fun e w' => e = .returned (.bool (balS l.length l)) ∧ Below w.heap.size w w' := by
  have BA := Lib.hid (ballot_c hv l.length)
  have hlm := hv.len
  obtain ⟨p, c, rfl⟩ := hv.shape
  obtain ⟨len, hlen⟩ : ∃ n, l.length = n := ⟨_, rfl⟩
  rw [hlen] at BA hlm ⊢
  obtain ⟨r, hr⟩ : ∃ r, balS len l = r := ⟨_, rfl⟩
  rw [hr] at BA ⊢
  clear hv hlen hr
  go_enter Try.func34, Try.ntmps34
  go_wp2_with (go_at_call 35; ((with_reducible refine BA.out.mono ?_); rintro e w1 ⟨rfl, hb1⟩))
  go_ret
  exact ⟨rfl, hb1⟩

end Go.Proofs.Ythplbhgbgcfogaa
