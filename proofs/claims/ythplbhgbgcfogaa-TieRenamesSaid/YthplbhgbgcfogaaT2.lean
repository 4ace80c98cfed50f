/- Searches in rows of integers: Has and Place of the reference, slices.Index. -/
import Derived.Test.YthplbhgbgcfogaaT0
namespace Go.Proofs.Nums

/-- Is x in l? -/
def hasB (l : List Int) (x : Int) : Bool := decide (x ∈ l)
theorem hasB_true {l : List Int} {x : Int} : hasB l x = true ↔ x ∈ l := by unfold hasB; exact decide_eq_true_iff
theorem hasB_false {l : List Int} {x : Int} : hasB l x = false ↔ x ∉ l := by unfold hasB; exact decide_eq_false_iff_not
theorem take_snoc_i {l : List Int} {k : Nat} (h : k < l.length) : l.take (k + 1) = l.take k ++ [l.getD k 0] := by
  rw [List.take_succ_eq_append_getElem h, List.getD_eq_getElem?_getD, List.getElem?_eq_getElem h]; rfl
theorem not_mem_snoc {l : List Int} {k : Nat} {x : Int} (h : k < l.length) (h1 : x ∉ l.take k) (h2 : l.getD k 0 ≠ x) : x ∉ l.take (k + 1) := by
  rw [take_snoc_i h, List.mem_append, List.mem_singleton]
  rintro (g | g)
  · exact h1 g
  · exact h2 g.symm
theorem mem_getD {l : List Int} {k : Nat} {x : Int} (h : k < l.length) (h2 : l.getD k 0 = x) : x ∈ l := by
  rw [← h2, List.getD_eq_getElem?_getD, List.getElem?_eq_getElem h]
  exact List.getElem_mem h
theorem not_mem_all {l : List Int} {k : Nat} {x : Int} (h : l.length ≤ k) (h1 : x ∉ l.take k) : x ∉ l := by
  rwa [List.take_of_length_le h] at h1

/-- The first place of x in l, or the length. -/
def placeN : List Int → Int → Nat
  | [], _ => 0
  | y :: l, x => if y = x then 0 else placeN l x + 1
theorem placeN_le (l : List Int) (x : Int) : placeN l x ≤ l.length := by
  induction l with
  | nil => exact Nat.le_refl _
  | cons y l ih => unfold placeN; split <;> simp <;> omega
theorem placeN_at {l : List Int} {x : Int} {k : Nat} (h : k < l.length) (h1 : x ∉ l.take k) (h2 : l.getD k 0 = x) : placeN l x = k := by
  induction l generalizing k with
  | nil => simp at h
  | cons y l ih =>
    unfold placeN
    cases k with
    | zero => rw [if_pos (by simpa using h2)]
    | succ k =>
      rw [List.take_succ_cons, List.mem_cons, not_or] at h1
      rw [if_neg (fun e => h1.1 e.symm), ih (by simpa using h) h1.2 (by simpa using h2)]
theorem placeN_none {l : List Int} {x : Int} (h : x ∉ l) : placeN l x = l.length := by
  induction l with
  | nil => rfl
  | cons y l ih =>
    rw [List.mem_cons, not_or] at h
    unfold placeN
    rw [if_neg (fun e => h.1 e.symm), ih h.2]; rfl
/-- slices.Index. -/
def indexZ (l : List Int) (x : Int) : Int := if x ∈ l then (placeN l x : Int) else -1

end Go.Proofs.Nums
namespace Go.Proofs.Ythplbhgbgcfogaa
open Go.RowKit Go.Proofs.Kit Go.Proofs.Nums

theorem ret_bb {a b : Bool} (h : a = b) : Ending.returned (.bool a) = .returned (.bool b) := by rw [h]
theorem ret_ii {a b : Int} (h : a = b) : Ending.returned (.int .i64 a) = .returned (.int .i64 b) := by rw [h]

set_option maxHeartbeats 1000000 in
theorem has_c {v : Value} {l : List Int} {w : World} (hv : IntsAt w v l) (x : Int) :
    Calls Try.prog 17 #[v, .int .i64 x] w fun e w' => e = .returned (.bool (hasB l x)) ∧ w = w' := by
  have H := Lib.hid hv
  have hlm : l.length ≤ 9223372036854775807 := by
    obtain ⟨p, c, _, h1, h2, _⟩ := hv
    rw [List.length_map] at h1
    omega
  obtain ⟨p, c, rfl⟩ := hv.shape
  obtain ⟨n, hn⟩ : ∃ n, l.length = n := ⟨_, rfl⟩
  have HN := Lib.hid hn
  rw [hn] at hlm H ⊢
  clear hv hn
  go_enter Try.func17, Try.ntmps17
  go_wp2_with fail
  go_loop [5] (fun i => ∃ k : Nat, k ≤ n ∧ i = .int .i64 k ∧ Hid (x ∉ l.take k)) (fun i => n - (intOf i).toNat)
  case atStart => exact ⟨0, by omega, rfl, Lib.hid (by simp)⟩
  case round =>
    obtain ⟨k, hk, rfl, hP⟩ := hrel
    by_cases hlt : k < n
    · obtain ⟨b, off, hp0, hc1, hc2, hcell⟩ := H.out.cellAt k (by rw [HN.out]; exact hlt)
      subst hp0
      have hltz : (k : Int) < (n : Int) := by omega
      obtain ⟨o, ho⟩ : ∃ o, l.getD k 0 = o := ⟨_, rfl⟩
      have HO := Lib.hid ho
      rw [ho] at hcell
      clear ho
      by_cases he : o = x
      · have HT : Hid (hasB l x = true) := Lib.hid (hasB_true.2 (mem_getD (by rw [HN.out]; exact hlt) (HO.out.trans he)))
        have e1 : (o == x) = true := by rw [beq_iff_eq]; exact he
        clear he
        go_wp2_with fail
        go_ret
        exact ⟨ret_bb HT.out.symm, rfl⟩
      · have HS : Hid (x ∉ l.take (k + 1)) := Lib.hid (not_mem_snoc (by rw [HN.out]; exact hlt) hP.out (by rw [HO.out]; exact he))
        have e1 : (o == x) = false := by rw [beq_eq_false_iff_ne]; exact he
        go_wp2_with fail
        go_round
        case rel => exact ⟨k + 1, by omega, by go_num, HS⟩
        case measure => simp [intOf] <;> omega
    · have hltz : ¬ (k : Int) < (n : Int) := by omega
      have HT : Hid (hasB l x = false) := Lib.hid (hasB_false.2 (not_mem_all (by rw [HN.out]; omega) hP.out))
      go_wp2_with fail
      go_ret
      exact ⟨ret_bb HT.out.symm, rfl⟩

set_option maxHeartbeats 1000000 in
theorem place_c {v : Value} {l : List Int} {w : World} (hv : IntsAt w v l) (x : Int) :
    Calls Try.prog 33 #[v, .int .i64 x] w fun e w' => e = .returned (.int .i64 (placeN l x : Nat)) ∧ w = w' := by
  have H := Lib.hid hv
  have hlm : l.length ≤ 9223372036854775807 := by
    obtain ⟨p, c, _, h1, h2, _⟩ := hv
    rw [List.length_map] at h1
    omega
  obtain ⟨p, c, rfl⟩ := hv.shape
  obtain ⟨n, hn⟩ : ∃ n, l.length = n := ⟨_, rfl⟩
  have HN := Lib.hid hn
  rw [hn] at hlm H ⊢
  clear hv hn
  go_enter Try.func33, Try.ntmps33
  go_wp2_with fail
  go_loop [5] (fun i => ∃ k : Nat, k ≤ n ∧ i = .int .i64 k ∧ Hid (x ∉ l.take k)) (fun i => n - (intOf i).toNat)
  case atStart => exact ⟨0, by omega, rfl, Lib.hid (by simp)⟩
  case round =>
    obtain ⟨k, hk, rfl, hP⟩ := hrel
    by_cases hlt : k < n
    · obtain ⟨b, off, hp0, hc1, hc2, hcell⟩ := H.out.cellAt k (by rw [HN.out]; exact hlt)
      subst hp0
      have hltz : (k : Int) < (n : Int) := by omega
      obtain ⟨o, ho⟩ : ∃ o, l.getD k 0 = o := ⟨_, rfl⟩
      have HO := Lib.hid ho
      rw [ho] at hcell
      clear ho
      by_cases he : o = x
      · have HT : Hid (placeN l x = k) := Lib.hid (placeN_at (by rw [HN.out]; exact hlt) hP.out (HO.out.trans he))
        have e1 : (o == x) = true := by rw [beq_iff_eq]; exact he
        clear he
        go_wp2_with fail
        go_ret
        exact ⟨ret_ii (by rw [HT.out]), rfl⟩
      · have HS : Hid (x ∉ l.take (k + 1)) := Lib.hid (not_mem_snoc (by rw [HN.out]; exact hlt) hP.out (by rw [HO.out]; exact he))
        have e1 : (o == x) = false := by rw [beq_eq_false_iff_ne]; exact he
        go_wp2_with fail
        go_round
        case rel => exact ⟨k + 1, by omega, by go_num, HS⟩
        case measure => simp [intOf] <;> omega
    · have hltz : ¬ (k : Int) < (n : Int) := by omega
      have HT : Hid (placeN l x = n) := Lib.hid (by rw [← HN.out]; exact placeN_none (not_mem_all (by rw [HN.out]; omega) hP.out))
      go_wp2_with fail
      go_ret
      exact ⟨ret_ii (by rw [HT.out]), rfl⟩

set_option maxHeartbeats 1000000 in
theorem index_c {v : Value} {l : List Int} {w : World} (hv : IntsAt w v l) (x : Int) :
    Calls Try.prog 29 #[v, .int .i64 x] w fun e w' => e = .returned (.int .i64 (indexZ l x)) ∧ w = w' := by
  have H := Lib.hid hv
  have hlm : l.length ≤ 9223372036854775807 := by
    obtain ⟨p, c, _, h1, h2, _⟩ := hv
    rw [List.length_map] at h1
    omega
  obtain ⟨p, c, rfl⟩ := hv.shape
  obtain ⟨n, hn⟩ : ∃ n, l.length = n := ⟨_, rfl⟩
  have HN := Lib.hid hn
  rw [hn] at hlm H ⊢
  clear hv hn
  go_enter Try.func29, Try.ntmps29
  go_wp2_with fail
  go_loop [8] (fun i => ∃ k : Nat, k ≤ n ∧ i = .int .i64 k ∧ Hid (x ∉ l.take k)) (fun i => n - (intOf i).toNat)
  case atStart => exact ⟨0, by omega, rfl, Lib.hid (by simp)⟩
  case round =>
    obtain ⟨k, hk, rfl, hP⟩ := hrel
    by_cases hlt : k < n
    · obtain ⟨b, off, hp0, hc1, hc2, hcell⟩ := H.out.cellAt k (by rw [HN.out]; exact hlt)
      subst hp0
      have hltz : (k : Int) < (n : Int) := by omega
      obtain ⟨o, ho⟩ : ∃ o, l.getD k 0 = o := ⟨_, rfl⟩
      have HO := Lib.hid ho
      rw [ho] at hcell
      clear ho
      by_cases he : o = x
      · have HT : Hid (indexZ l x = (k : Int)) := Lib.hid (by unfold indexZ; rw [if_pos (mem_getD (by rw [HN.out]; exact hlt) (HO.out.trans he)), placeN_at (by rw [HN.out]; exact hlt) hP.out (HO.out.trans he)])
        have e1 : (x == o) = true := by rw [beq_iff_eq]; exact he.symm
        clear he
        go_wp2_with fail
        go_ret
        exact ⟨ret_ii HT.out.symm, rfl⟩
      · have HS : Hid (x ∉ l.take (k + 1)) := Lib.hid (not_mem_snoc (by rw [HN.out]; exact hlt) hP.out (by rw [HO.out]; exact he))
        have e1 : (x == o) = false := by rw [beq_eq_false_iff_ne]; exact fun e => he e.symm
        go_wp2_with fail
        go_round
        case rel => exact ⟨k + 1, by omega, by go_num, HS⟩
        case measure => simp [intOf] <;> omega
    · have hltz : ¬ (k : Int) < (n : Int) := by omega
      have HT : Hid (indexZ l x = -1) := Lib.hid (by unfold indexZ; rw [if_neg (not_mem_all (by rw [HN.out]; omega) hP.out)])
      go_wp2_with fail
      go_ret
      exact ⟨ret_ii HT.out.symm, rfl⟩

end Go.Proofs.Ythplbhgbgcfogaa
