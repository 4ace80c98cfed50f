import Derived.Test.YthdcgplocdehjaaLxWh
import Derived.Test.YthdcgplocdehjaaLxWf
namespace Go.Proofs.Ythdcgplocdehjaa
open Go.RowKit Go.Proofs.Kit

set_option maxHeartbeats 400000 in
theorem rletter_any (c : UInt8) (w : World) :
    Calls Try.prog 43 #[.int .u8 c.toNat] w fun e w' => e = .returned (.bool (isLetter c)) ∧ w = w' := by
  unfold isLetter
  go_enter Try.func43, Try.ntmps43
  go_wp2
  all_goals
    go_ret
    exact ⟨ret_bool (by simp; try omega), rfl⟩

set_option maxHeartbeats 400000 in
theorem rdigit_any (c : UInt8) (w : World) :
    Calls Try.prog 63 #[.int .u8 c.toNat] w fun e w' => e = .returned (.bool (isDigit c)) ∧ w = w' := by
  unfold isDigit
  go_enter Try.func63, Try.ntmps63
  go_wp2
  all_goals
    go_ret
    exact ⟨ret_bool (by simp; try omega), rfl⟩

set_option maxHeartbeats 400000 in
theorem rtail_any (c : UInt8) (w : World) :
    Calls Try.prog 61 #[.int .u8 c.toNat] w fun e w' => e = .returned (.bool (isTail c)) ∧ w = w' := by
  go_enter Try.func61, Try.ntmps61
  go_wp2_with (first
    | (go_at_call 43; refine (rletter_any _ _).mono ?_; rintro e w' ⟨rfl, rfl⟩)
    | (go_at_call 63; refine (rdigit_any _ _).mono ?_; rintro e w' ⟨rfl, rfl⟩))
  all_goals
    go_ret
    exact ⟨ret_bool (by simp [isTail, *]), rfl⟩

def inL (c : UInt8) (l : List UInt8) : Bool := l.any fun x => (x.toNat : Int) == (c.toNat : Int)

set_option maxHeartbeats 1000000 in
theorem in_any (c : UInt8) (s : ByteArray) (w : World) (hs : s.size ≤ maxLen) :
    Calls Try.prog 30 #[.int .u8 c.toNat, .string s] w fun e w' => e = .returned (.bool (inL c s.data.toList)) ∧ w = w' := by
  unfold maxLen at hs
  go_enter Try.func30, Try.ntmps30
  go_wp2
  go_loop [5] (fun i => ∃ k : Nat, k ≤ s.size ∧ i = .int .i64 k ∧ Hid (inL c (s.data.toList.take k) = false)) (fun i => s.size - (intOf i).toNat)
  case atStart => exact ⟨0, Nat.zero_le _, rfl, Lib.hid (by simp [inL])⟩
  case round =>
    obtain ⟨k, hk, rfl, hP⟩ := hrel
    by_cases hlt : k < s.size
    · have hts := Lib.hid (take_snoc s k hlt)
      go_wp2
      · have h1 : ((s[k].toNat : Int) == (c.toNat : Int)) = true := by assumption
        go_ret
        refine ⟨ret_bool ?_, rfl⟩
        have : s.data.toList[k]'(by rw [← Lib.size_eq]; exact hlt) ∈ s.data.toList := List.getElem_mem _
        symm
        exact List.any_eq_true.2 ⟨_, this, by rw [data_at s k hlt]; exact h1⟩
      · have h1 : ((s[k].toNat : Int) == (c.toNat : Int)) = false := by assumption
        go_round
        case rel => exact ⟨k + 1, by omega, by go_num, Lib.hid (by rw [hts.out]; unfold inL at *; rw [List.any_append, hP.out]; simpa using h1)⟩
        case measure => simp [intOf]; omega
    · go_wp2
      go_ret
      refine ⟨ret_bool ?_, rfl⟩
      have := hP.out
      rw [List.take_of_length_le (by rw [← Lib.size_eq]; omega)] at this
      exact this.symm

set_option maxHeartbeats 1000000 in
theorem run_any (s : ByteArray) (w : World) (hs : s.size ≤ maxLen) :
    Calls Try.prog 44 #[.string s] w fun e w' => e = .returned (.int .i64 (spanL isTail s.data.toList)) ∧ w = w' := by
  unfold maxLen at hs
  go_enter Try.func44, Try.ntmps44
  go_wp2
  go_loop [3] (fun i => ∃ k : Nat, k ≤ s.size ∧ i = .int .i64 k ∧ Hid (∀ j (h : j < s.data.toList.length), j < k → isTail s.data.toList[j] = true)) (fun i => s.size - (intOf i).toNat)
  case atStart => exact ⟨0, Nat.zero_le _, rfl, fun _ _ h => absurd h (by omega)⟩
  case round =>
    obtain ⟨k, hk, rfl, hP⟩ := hrel
    by_cases hlt : k < s.size
    · cases hp : isTail s[k]
      · go_wp2_with (go_at_call 61; refine (rtail_any _ _).mono ?_; rintro e w' ⟨rfl, rfl⟩)
        go_ret
        exact ⟨ret_int (by rw [spanL_at _ _ k (by simpa using hk) hP.out (fun h => by simp only [Array.getElem_toList]; exact hp)]), rfl⟩
      · go_wp2_with (go_at_call 61; refine (rtail_any _ _).mono ?_; rintro e w' ⟨rfl, rfl⟩)
        go_round
        case rel =>
          refine ⟨k + 1, by omega, by go_num, fun j h hj => ?_⟩
          by_cases hjk : j < k
          · exact hP.out j h hjk
          · obtain rfl : j = k := by omega
            simp only [Array.getElem_toList]; exact hp
        case measure => simp [intOf]; omega
    · go_wp2
      go_ret
      exact ⟨ret_int (by rw [spanL_at _ _ k (by simpa using hk) hP.out (fun h => absurd h (by simpa using hlt))]), rfl⟩

/-- Is the whole text a word, a number? -/
def wordB (l : List UInt8) : Bool := decide (0 < l.length) && decide (wordL l = l.length)

set_option maxHeartbeats 1000000 in
theorem rword_any (s : ByteArray) (w : World) (hs : s.size ≤ maxLen) :
    Calls Try.prog 28 #[.string s] w fun e w' => e = .returned (.bool (wordB s.data.toList)) ∧ w = w' := by
  by_cases h0 : 0 < s.size
  · have hE : s.toList.isEmpty = false := bempty_f s h0
    have HW : Hid (wordB s.data.toList = decide (wordL s.data.toList = s.size)) := Lib.hid (by unfold wordB; rw [← Lib.size_eq]; simp [h0])
    have HW2 := Lib.hid (wordL_ne s h0)
    cases hl : isLetter s[0]
    · go_enter Try.func28, Try.ntmps28
      go_wp2_with (go_at_call 43; refine (rletter_any _ _).mono ?_; rintro e w' ⟨rfl, rfl⟩)
      go_ret
      exact ⟨ret_bool (by rw [HW.out, HW2.out, hl]; simp; omega), rfl⟩
    · go_enter Try.func28, Try.ntmps28
      go_wp2_with (first
        | (go_at_call 43; refine (rletter_any _ _).mono ?_; rintro e w' ⟨rfl, rfl⟩)
        | (go_at_call 44; refine (run_any _ _ hs).mono ?_; rintro e w' ⟨rfl, rfl⟩))
      go_ret
      exact ⟨ret_bool (by rw [HW.out, HW2.out, hl, Bool.eq_iff_iff]; simp; omega), rfl⟩
  · have hE : s.toList.isEmpty = true := bempty_t s h0
    have HW : Hid (wordB s.data.toList = false) := by rw [data_nil s h0]; exact Lib.hid rfl
    clear h0
    go_enter Try.func28, Try.ntmps28
    go_wp2
    go_ret
    exact ⟨ret_bool (by rw [HW.out]), rfl⟩

theorem ne48 (c : UInt8) : decide (some c ≠ some (48 : UInt8)) = ((c.toNat : Int) != 48) := by
  rw [Bool.eq_iff_iff]
  simp only [ne_eq, Option.some.injEq, decide_eq_true_eq, bne_iff_ne]
  constructor
  · intro h h'; exact h (UInt8.toNat_inj.1 (by simp; omega))
  · intro h h'; rw [h'] at h; exact h rfl

def numB (l : List UInt8) : Bool := l.all isDigit && decide (1 ≤ l.length) && decide (l.length ≤ 6) && (decide (l.length = 1) || decide (l.head? ≠ some 48))

set_option maxHeartbeats 2000000 in
theorem rnumber_any (s : ByteArray) (w : World) (hs : s.size ≤ maxLen) :
    Calls Try.prog 46 #[.string s] w fun e w' => e = .returned (.bool (numB s.data.toList)) ∧ w = w' := by
  unfold maxLen at hs
  go_enter Try.func46, Try.ntmps46
  go_wp2
  go_loop [3] (fun i => ∃ k : Nat, k ≤ s.size ∧ i = .int .i64 k ∧ Hid ((s.data.toList.take k).all isDigit = true)) (fun i => s.size - (intOf i).toNat)
  case atStart => exact ⟨0, Nat.zero_le _, rfl, Lib.hid (by simp)⟩
  case round =>
    obtain ⟨k, hk, rfl, hP⟩ := hrel
    by_cases hlt : k < s.size
    · have hts := Lib.hid (take_snoc s k hlt)
      cases hp : isDigit s[k]
      · go_wp2_with (go_at_call 63; refine (rdigit_any _ _).mono ?_; rintro e w' ⟨rfl, rfl⟩)
        go_ret
        exact ⟨ret_bool (by unfold numB; rw [all_false_at s k hlt isDigit hp]; rfl), rfl⟩
      · go_wp2_with (go_at_call 63; refine (rdigit_any _ _).mono ?_; rintro e w' ⟨rfl, rfl⟩)
        go_round
        case rel => exact ⟨k + 1, by omega, by go_num, Lib.hid (by rw [hts.out, List.all_append, hP.out]; simpa using hp)⟩
        case measure => simp [intOf]; omega
    · have hA : Hid (s.data.toList.all isDigit = true) := Lib.hid (by
        have := hP.out
        rw [List.take_of_length_le (by rw [← Lib.size_eq]; omega)] at this
        exact this)
      have KEY : Hid (numB s.data.toList = (decide (1 ≤ s.size) && decide (s.size ≤ 6) && (decide (s.size = 1) || decide (s.data.toList.head? ≠ some 48)))) := Lib.hid (by
        unfold numB; rw [hA.out, ← Lib.size_eq]; simp)
      have hh : ∀ h : 0 < s.size, s.data.toList.head? = some s[0] := fun h => by obtain ⟨r, hr⟩ := data_cons s h; rw [hr]; rfl
      have HH := Lib.hid hh
      clear hh
      by_cases h0 : 0 < s.size
      · by_cases h1 : s.size = 1
        · have b1 : ((s.size : Int) == 1) = true := by simp [h1]
          have H1 := Lib.hid h1
          have h6 : s.size ≤ 1 := by omega
          clear h1
          go_wp2
          all_goals
            go_ret
            refine ⟨ret_bool ?_, rfl⟩
            rw [KEY.out, H1.out]
            rfl
        · have b1 : ((s.size : Int) == 1) = false := by rw [beq_eq_false_iff_ne]; omega
          go_wp2
          all_goals
            go_ret
            refine ⟨ret_bool ?_, rfl⟩
            rw [KEY.out, HH.out h0, ne48]
            simp only [show decide (s.size = 1) = false by simp; exact h1]
            simp
            try omega
      · go_wp2
        go_ret
        refine ⟨ret_bool ?_, rfl⟩
        rw [KEY.out]
        simp; omega

end Go.Proofs.Ythdcgplocdehjaa
