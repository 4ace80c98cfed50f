/- electionmake.Ballot, Rising and Rename. -/
import Derived.Test.YthplbhgbgcfogaaT2
namespace Go.Proofs.Nums

/-- electionmake.Ballot. -/
def ballotStep (n : Int) (out : List Int) (y : Int) : List Int := if (out.length : Int) < n ∧ hasB out (y % n) = false then out ++ [y % n] else out
def ballotS (n : Int) (l : List Int) : List Int := l.foldl (ballotStep n) []
theorem ballot_full {n : Int} {out : List Int} (h : ¬ (out.length : Int) < n) (l : List Int) : l.foldl (ballotStep n) out = out := by
  induction l with
  | nil => rfl
  | cons y l ih =>
    rw [List.foldl_cons]
    have e : ballotStep n out y = out := by unfold ballotStep; rw [if_neg (fun g => h g.1)]
    rw [e, ih]
theorem ballot_ok {n : Int} (hn : 1 ≤ n) (l : List Int) : (ballotS n l).Nodup ∧ (∀ x ∈ ballotS n l, 0 ≤ x ∧ x < n) ∧ (l ≠ [] → ballotS n l ≠ []) := by
  have key : ∀ (l out : List Int), out.Nodup → (∀ x ∈ out, 0 ≤ x ∧ x < n) → (l.foldl (ballotStep n) out).Nodup ∧ (∀ x ∈ l.foldl (ballotStep n) out, 0 ≤ x ∧ x < n) ∧ (out ≠ [] ∨ l ≠ [] → l.foldl (ballotStep n) out ≠ []) := by
    intro l
    induction l with
    | nil =>
      intro out h1 h2
      exact ⟨h1, h2, fun h => by rcases h with h | h; exact h; exact absurd rfl h⟩
    | cons y l ih =>
      intro out h1 h2
      rw [List.foldl_cons]
      unfold ballotStep
      by_cases hc : (out.length : Int) < n ∧ hasB out (y % n) = false
      · rw [if_pos hc]
        have hm1 := Int.emod_nonneg y (show n ≠ 0 by omega)
        have hm2 := Int.emod_lt_of_pos y (show 0 < n by omega)
        have hnin := hasB_false.1 hc.2
        have g1 : (out ++ [y % n]).Nodup := by
          rw [List.nodup_append]
          refine ⟨h1, by simp, fun a ha b hb => ?_⟩
          rw [List.mem_singleton] at hb
          rintro rfl
          rw [hb] at ha
          exact hnin ha
        have g2 : ∀ x ∈ out ++ [y % n], 0 ≤ x ∧ x < n := by
          intro x hx
          rcases List.mem_append.1 hx with g | g
          · exact h2 x g
          · rw [List.mem_singleton.1 g]; exact ⟨hm1, hm2⟩
        have := ih _ g1 g2
        exact ⟨this.1, this.2.1, fun _ => this.2.2 (.inl (by simp))⟩
      · rw [if_neg hc]
        have hne : out ≠ [] := by
          rintro rfl
          apply hc
          exact ⟨by simp; omega, by rw [hasB_false]; simp⟩
        have := ih _ h1 h2
        exact ⟨this.1, this.2.1, fun _ => this.2.2 (.inl hne)⟩
  have := key l [] List.nodup_nil (fun x hx => by simp at hx)
  exact ⟨this.1, this.2.1, fun h => this.2.2 (.inr h)⟩

/-- electionmake.Rising. -/
def riseTo (l : List Int) (k : Nat) : List Int := ((List.range k).map fun i : Nat => (i : Int)).filter fun x => hasB l x
def risingS (l : List Int) : List Int := riseTo l 12
theorem riseTo_yes {l : List Int} {k : Nat} (h : hasB l k = true) : riseTo l (k + 1) = riseTo l k ++ [(k : Int)] := by
  unfold riseTo
  rw [List.range_succ, List.map_append, List.filter_append, List.map_singleton, List.filter_cons, if_pos h, List.filter_nil]
theorem riseTo_no {l : List Int} {k : Nat} (h : hasB l k = false) : riseTo l (k + 1) = riseTo l k := by
  unfold riseTo
  rw [List.range_succ, List.map_append, List.filter_append, List.map_singleton, List.filter_cons, if_neg (by rw [h]; decide), List.filter_nil, List.append_nil]
theorem riseTo_len (l : List Int) (k : Nat) : (riseTo l k).length ≤ k := by
  unfold riseTo
  have := List.length_filter_le (fun x => hasB l x) ((List.range k).map fun i : Nat => (i : Int))
  rwa [List.length_map, List.length_range] at this
theorem mem_rising {l : List Int} {x : Int} : x ∈ risingS l ↔ 0 ≤ x ∧ x < 12 ∧ x ∈ l := by
  unfold risingS riseTo
  rw [List.mem_filter, List.mem_map]
  constructor
  · rintro ⟨⟨i, hi, rfl⟩, h⟩
    rw [List.mem_range] at hi
    exact ⟨by omega, by omega, hasB_true.1 h⟩
  · rintro ⟨h1, h2, h3⟩
    exact ⟨⟨x.toNat, by rw [List.mem_range]; omega, by omega⟩, hasB_true.2 h3⟩
theorem rising_sorted (l : List Int) : (risingS l).Pairwise (· < ·) := by
  unfold risingS riseTo
  apply List.Pairwise.filter
  rw [List.pairwise_map]
  exact List.pairwise_lt_range.imp (fun h => by omega)

/-- electionmake.Rename. -/
def renameS (l to : List Int) : List Int := l.map fun x => to.getD x.toNat 0

end Go.Proofs.Nums
namespace Go.Proofs.Ythplbhgbgcfogaa
open Go.RowKit Go.Proofs.Kit Go.Proofs.Nums

theorem IntsAt.len {w : World} {v : Value} {l : List Int} (hv : IntsAt w v l) : l.length ≤ 9223372036854775807 := by
  obtain ⟨p, c, _, h1, h2, _⟩ := hv
  rw [List.length_map] at h1
  omega
theorem ints_owned {w : World} {base : Nat} {v : Value} {n : Nat} {o : List Int} (h : w.ownsRow base 3 1 v n (o.map (Value.int .i64))) : IntsAt w v o := RowAt.owned h

set_option maxHeartbeats 2000000 in
theorem mballot_c {v : Value} {l : List Int} {w : World} (hv : IntsAt w v l) (n : Int) (hn1 : 1 ≤ n) (hn2 : n ≤ 1000) :
    Calls Try.prog 21 #[.int .i64 n, v] w fun e w' => ∃ v', e = .returned v' ∧ IntsAt w' v' (ballotS n l) ∧ Fresh w.heap.size v' ∧ Below w.heap.size w w' := by
  have H := Lib.hid hv
  have hlm := hv.len
  obtain ⟨p, c, rfl⟩ := hv.shape
  obtain ⟨len, hlen⟩ : ∃ n, l.length = n := ⟨_, rfl⟩
  have HN := Lib.hid hlen
  rw [hlen] at hlm H ⊢
  clear hv hlen
  go_enter Try.func21, Try.ntmps21
  go_wp2_with fail
  go_loopw [5, 6] (fun ov iv wr => ∃ k m : Nat, ∃ o : List Int, k ≤ len ∧ m ≤ 1000 ∧ iv = .int .i64 k ∧ wr.ownsRow w.heap.size 3 1 ov m (o.map (Value.int .i64)) ∧ Below w.heap.size w wr ∧ Hid (o.length = m ∧ o = (l.take k).foldl (ballotStep n) [])) (fun _ iv _ => len - (intOf iv).toNat)
  case atStart => exact ⟨0, 0, [], by omega, by omega, rfl, World.ownsRow_nil _ _ _ _, Below.refl _ _, Lib.hid ⟨rfl, rfl⟩⟩
  case round =>
    obtain ⟨k, m, o, hk, hm, rfl, hown, hbel, hP⟩ := hrel
    obtain ⟨p1, c1, ho1⟩ : ∃ p c, u5 = Value.slice p m c := by
      rcases ownsRow_cases hown with ⟨h1, h2⟩ | ⟨g, cap, h1, _⟩
      · subst h2; exact ⟨_, _, h1⟩
      · exact ⟨_, _, h1⟩
    subst ho1
    by_cases hlt : k < len
    · have hltz : (k : Int) < (len : Int) := by omega
      by_cases hmn : (m : Int) < n
      · obtain ⟨b, off, hp0, hc1, hc2, hcell⟩ := (H.out.keep hbel).cellAt k (by rw [HN.out]; exact hlt)
        subst hp0
        obtain ⟨y, hy⟩ : ∃ y, l.getD k 0 = y := ⟨_, rfl⟩
        have hts := take_snoc_i (l := l) (k := k) (by rw [HN.out]; exact hlt)
        rw [hy] at hcell hts
        have z1 := Int.emod_nonneg y (show n ≠ 0 by omega)
        have z2 := Int.emod_lt_of_pos y (show 0 < n by omega)
        have C : Hid (∀ w, Calls Try.prog 9 #[.int .i64 y, .int .i64 n] w fun e w' => e = .returned (.int .i64 (y % n)) ∧ w = w') := Lib.hid (fun w => mod_c y n (by omega) (by omega) w)
        have hstep : (l.take (k + 1)).foldl (ballotStep n) [] = ballotStep n o y := by rw [hts, List.foldl_append, ← hP.out.2]; rfl
        have HI := Lib.hid (ints_owned hown)
        have HA : Hid (Calls Try.prog 17 #[.slice p1 m c1, .int .i64 (y % n)] wr fun e w' => e = .returned (.bool (hasB o (y % n))) ∧ wr = w') := Lib.hid (by
          have := has_c HI.out (y % n)
          exact this)
        obtain ⟨r, hr⟩ : ∃ r, y % n = r := ⟨_, rfl⟩
        rw [hr] at z1 z2 C HA
        unfold ballotStep at hstep
        rw [hr] at hstep
        cases hb : hasB o r
        · rw [hb] at HA
          have HS : Hid ((o ++ [r]).length = m + 1 ∧ (o ++ [r]) = (l.take (k + 1)).foldl (ballotStep n) []) := Lib.hid ⟨by rw [List.length_append, hP.out.1]; rfl, by
            unfold ballotStep
            rw [hstep, if_pos ⟨by rw [hP.out.1]; exact hmn, hb⟩]⟩
          clear hy hts hstep hr hb
          go_wp2_with (first
            | (go_at_call 9; ((with_reducible refine (C.out _).mono ?_); rintro e w1 ⟨rfl, rfl⟩))
            | (go_at_call 17; ((with_reducible refine (HA.out).mono ?_); rintro e w1 ⟨rfl, rfl⟩))
            | (at_builtin; go_must (refine append_one erI rfl rfl hown rfl rfl rfl (by simp [Value.oneCell']) (by omega) (by omega) hbel.size ?_); intro v' w1 hown1 _ hb1 hne1))
          go_roundw
          case rel =>
            refine ⟨k + 1, m + 1, o ++ [r], by omega, by omega, by go_num, ?_, hbel.trans hb1, HS⟩
            rw [List.map_append]
            exact hown1
          case measure => simp [intOf] <;> omega
        · rw [hb] at HA
          have HS : Hid (o.length = m ∧ o = (l.take (k + 1)).foldl (ballotStep n) []) := Lib.hid ⟨hP.out.1, by
            unfold ballotStep
            rw [hstep, if_neg (fun g => by have := g.2; rw [hb] at this; simp at this)]⟩
          clear hy hts hstep hr hb
          go_wp2_with (first
            | (go_at_call 9; ((with_reducible refine (C.out _).mono ?_); rintro e w1 ⟨rfl, rfl⟩))
            | (go_at_call 17; ((with_reducible refine (HA.out).mono ?_); rintro e w1 ⟨rfl, rfl⟩)))
          go_roundw
          case rel => exact ⟨k + 1, m, o, by omega, hm, by go_num, hown, hbel, HS⟩
          case measure => simp [intOf] <;> omega
      · have HE : Hid (o = ballotS n l) := Lib.hid (by
          unfold ballotS
          rw [← List.take_append_drop k l, List.foldl_append, ← hP.out.2, ballot_full (by rw [hP.out.1]; exact hmn)])
        have HI := Lib.hid (ints_owned hown)
        have HF := Lib.hid (Fresh.owned hown)
        clear hown
        go_wp2_with fail
        go_ret
        exact ⟨_, rfl, by rw [← HE.out]; exact HI.out, HF.out, hbel⟩
    · have hltz : ¬ (k : Int) < (len : Int) := by omega
      have HE : Hid (o = ballotS n l) := Lib.hid (by
        unfold ballotS
        rw [hP.out.2, List.take_of_length_le (by rw [HN.out]; omega)])
      have HI := Lib.hid (ints_owned hown)
      have HF := Lib.hid (Fresh.owned hown)
      clear hown
      go_wp2_with fail
      go_ret
      exact ⟨_, rfl, by rw [← HE.out]; exact HI.out, HF.out, hbel⟩

set_option maxHeartbeats 2000000 in
theorem rising_c {v : Value} {l : List Int} {w : World} (hv : IntsAt w v l) :
    Calls Try.prog 19 #[v] w fun e w' => ∃ v', e = .returned v' ∧ IntsAt w' v' (risingS l) ∧ Fresh w.heap.size v' ∧ Below w.heap.size w w' := by
  have H := Lib.hid hv
  obtain ⟨p, c, rfl⟩ := hv.shape
  obtain ⟨len, hlen⟩ : ∃ n, l.length = n := ⟨_, rfl⟩
  rw [hlen] at H ⊢
  clear hv hlen
  go_enter Try.func19, Try.ntmps19
  go_wp2_with fail
  go_loopw [3, 4] (fun ov iv wr => ∃ k m : Nat, k ≤ 12 ∧ m ≤ 12 ∧ iv = .int .i64 k ∧ wr.ownsRow w.heap.size 3 1 ov m ((riseTo l k).map (Value.int .i64)) ∧ Below w.heap.size w wr) (fun _ iv _ => 12 - (intOf iv).toNat)
  case atStart => exact ⟨0, 0, by omega, by omega, rfl, (World.ownsRow_nil _ _ _ _ : w.ownsRow w.heap.size 3 1 (.slice none 0 0) 0 []), Below.refl _ _⟩
  case round =>
    obtain ⟨k, m, hk, hm, rfl, hown, hbel⟩ := hrel
    by_cases hlt : k < 12
    · have hltz : (k : Int) < 12 := by omega
      have hm2 : m ≤ k := by
        have h1 := hown.1
        have h2 := riseTo_len l k
        rw [List.length_map] at h1
        omega
      have HA : Hid (Calls Try.prog 17 #[.slice p len c, .int .i64 k] wr fun e w' => e = .returned (.bool (hasB l k)) ∧ wr = w') := Lib.hid (has_c (H.out.keep hbel) k)
      cases hb : hasB l k
      · rw [hb] at HA
        have HR := Lib.hid (riseTo_no hb)
        clear hb
        go_wp2_with (go_at_call 17; ((with_reducible refine (HA.out).mono ?_); rintro e w1 ⟨rfl, rfl⟩))
        go_roundw
        case rel => exact ⟨k + 1, m, by omega, hm, by go_num, by rw [HR.out]; exact hown, hbel⟩
        case measure => simp [intOf] <;> omega
      · rw [hb] at HA
        have HR := Lib.hid (riseTo_yes hb)
        clear hb
        go_wp2_with (first
          | (go_at_call 17; ((with_reducible refine (HA.out).mono ?_); rintro e w1 ⟨rfl, rfl⟩))
          | (at_builtin; go_must (refine append_one erI rfl rfl hown rfl rfl rfl (by simp [Value.oneCell']) (by omega) (by omega) hbel.size ?_); intro v' w1 hown1 _ hb1 hne1))
        go_roundw
        case rel =>
          refine ⟨k + 1, m + 1, by omega, by omega, by go_num, ?_, hbel.trans hb1⟩
          rw [HR.out, List.map_append]
          exact hown1
        case measure => simp [intOf] <;> omega
    · obtain rfl : k = 12 := by omega
      have HI : Hid (IntsAt wr u3 (risingS l)) := Lib.hid (ints_owned hown)
      have HF := Lib.hid (Fresh.owned hown)
      clear hown
      go_wp2_with fail
      go_ret
      exact ⟨_, rfl, HI.out, HF.out, hbel⟩

set_option maxHeartbeats 2000000 in
theorem rename_c {v vt : Value} {l to : List Int} {w : World} (hv : IntsAt w v l) (ht : IntsAt w vt to) (hl : l.length ≤ 1000) (hr : ∀ x ∈ l, 0 ≤ x ∧ x < (to.length : Int)) :
    Calls Try.prog 20 #[v, vt] w fun e w' => ∃ v', e = .returned v' ∧ IntsAt w' v' (renameS l to) ∧ Fresh w.heap.size v' ∧ Below w.heap.size w w' := by
  have H := Lib.hid hv
  have HT := Lib.hid ht
  have HR := Lib.hid hr
  obtain ⟨p, c, rfl⟩ := hv.shape
  obtain ⟨p', c', rfl⟩ := ht.shape
  obtain ⟨len, hlen⟩ : ∃ n, l.length = n := ⟨_, rfl⟩
  have HN := Lib.hid hlen
  obtain ⟨lt, hlt⟩ : ∃ n, to.length = n := ⟨_, rfl⟩
  have HM := Lib.hid hlt
  rw [hlen] at hl H ⊢
  rw [hlt] at HT ⊢
  clear hv hlen ht hlt hr
  go_enter Try.func20, Try.ntmps20
  go_wp2_with fail
  go_loopw [5, 6] (fun ov iv wr => ∃ k : Nat, k ≤ len ∧ iv = .int .i64 k ∧ wr.ownsRow w.heap.size 3 1 ov k ((renameS (l.take k) to).map (Value.int .i64)) ∧ Below w.heap.size w wr) (fun _ iv _ => len - (intOf iv).toNat)
  case atStart => exact ⟨0, by omega, rfl, World.ownsRow_nil _ _ _ _, Below.refl _ _⟩
  case round =>
    obtain ⟨k, hk, rfl, hown, hbel⟩ := hrel
    by_cases hlt : k < len
    · have hltz : (k : Int) < (len : Int) := by omega
      obtain ⟨b, off, hp0, hc1, hc2, hcell⟩ := (H.out.keep hbel).cellAt k (by rw [HN.out]; exact hlt)
      subst hp0
      have hmem := HR.out (l.getD k 0) (mem_getD (by rw [HN.out]; exact hlt) rfl)
      have hts := take_snoc_i (l := l) (k := k) (by rw [HN.out]; exact hlt)
      obtain ⟨y, hy⟩ : ∃ y, l.getD k 0 = y := ⟨_, rfl⟩
      rw [hy] at hcell hts hmem
      obtain ⟨j, hj⟩ : ∃ j : Nat, y = j := ⟨y.toNat, by omega⟩
      subst hj
      rw [HM.out] at hmem
      have hjl : j < lt := by omega
      have hjz : (j : Int) < (lt : Int) := by omega
      obtain ⟨b2, off2, hp2, hc3, hc4, hcell2⟩ := (HT.out.keep hbel).cellAt j (by rw [HM.out]; exact hjl)
      subst hp2
      have HS : Hid (renameS (l.take (k + 1)) to = renameS (l.take k) to ++ [to.getD j 0]) := Lib.hid (by
        unfold renameS
        rw [hts, List.map_append]
        simp)
      obtain ⟨z, hz⟩ : ∃ z, to.getD j 0 = z := ⟨_, rfl⟩
      rw [hz] at hcell2 HS
      clear hy hts hmem hz
      go_wp2_with (at_builtin; go_must (refine append_one erI rfl rfl hown rfl rfl rfl (by simp [Value.oneCell']) (by omega) (by omega) hbel.size ?_); intro v' w1 hown1 _ hb1 hne1)
      go_roundw
      case rel =>
        refine ⟨k + 1, by omega, by go_num, ?_, hbel.trans hb1⟩
        rw [HS.out, List.map_append]
        exact hown1
      case measure => simp [intOf] <;> omega
    · have hltz : ¬ (k : Int) < (len : Int) := by omega
      have HI : Hid (IntsAt wr u5 (renameS l to)) := Lib.hid (by
        have := ints_owned hown
        rwa [List.take_of_length_le (by rw [HN.out]; omega)] at this)
      have HF := Lib.hid (Fresh.owned hown)
      clear hown
      go_wp2_with fail
      go_ret
      exact ⟨_, rfl, HI.out, HF.out, hbel⟩

end Go.Proofs.Ythplbhgbgcfogaa
