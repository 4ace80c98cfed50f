import Derived.Test.YthdcgplocdehjaaRows
import Derived.WalkKit
import Derived.WalkSpells
import Derived.WalkLawsBesides
import Derived.Lib.Hide
namespace Go.Proofs.Ythdcgplocdehjaa
open Go.RowKit

theorem ret_bool {a b : Bool} (h : a = b) : Ending.returned (.bool a) = .returned (.bool b) := by rw [h]
theorem ret_int {k : IntKind} {a b : Int} (h : a = b) : Ending.returned (.int k a) = .returned (.int k b) := by rw [h]

def isLetter (c : UInt8) : Bool := decide (97 ≤ (c.toNat : Int)) && decide ((c.toNat : Int) ≤ 122)
def isDigit (c : UInt8) : Bool := decide (48 ≤ (c.toNat : Int)) && decide ((c.toNat : Int) ≤ 57)
def isTail (c : UInt8) : Bool := isLetter c || isDigit c || ((c.toNat : Int) == 45)
def isPrint (c : UInt8) : Bool := decide (32 ≤ (c.toNat : Int)) && decide ((c.toNat : Int) ≤ 126)
def notNl (c : UInt8) : Bool := ((c.toNat : Int) != 10)

set_option maxHeartbeats 400000 in
theorem letter_any (c : UInt8) (w : World) :
    Calls Try.prog 65 #[.int .u8 c.toNat] w fun e w' => e = .returned (.bool (isLetter c)) ∧ w = w' := by
  unfold isLetter
  go_enter Try.func65, Try.ntmps65
  go_wp2
  all_goals
    go_ret
    exact ⟨ret_bool (by simp; try omega), rfl⟩

set_option maxHeartbeats 400000 in
theorem digit_any (c : UInt8) (w : World) :
    Calls Try.prog 67 #[.int .u8 c.toNat] w fun e w' => e = .returned (.bool (isDigit c)) ∧ w = w' := by
  unfold isDigit
  go_enter Try.func67, Try.ntmps67
  go_wp2
  all_goals
    go_ret
    exact ⟨ret_bool (by simp; try omega), rfl⟩

set_option maxHeartbeats 400000 in
theorem inWord_any (c : UInt8) (w : World) :
    Calls Try.prog 66 #[.int .u8 c.toNat] w fun e w' => e = .returned (.bool (isTail c)) ∧ w = w' := by
  go_enter Try.func66, Try.ntmps66
  go_wp2_with (first
    | (go_at_call 65; refine (letter_any _ _).mono ?_; rintro e w' ⟨rfl, rfl⟩)
    | (go_at_call 67; refine (digit_any _ _).mono ?_; rintro e w' ⟨rfl, rfl⟩))
  all_goals
    go_ret
    exact ⟨ret_bool (by simp [isTail, *]), rfl⟩

set_option maxHeartbeats 400000 in
theorem printable_any (c : UInt8) (w : World) :
    Calls Try.prog 39 #[.int .u8 c.toNat] w fun e w' => e = .returned (.bool (isPrint c)) ∧ w = w' := by
  unfold isPrint
  go_enter Try.func39, Try.ntmps39
  go_wp2
  all_goals
    go_ret
    exact ⟨ret_bool (by simp; try omega), rfl⟩

set_option maxHeartbeats 400000 in
theorem notNl_any (c : UInt8) (w : World) :
    Calls Try.prog 49 #[.int .u8 c.toNat] w fun e w' => e = .returned (.bool (notNl c)) ∧ w = w' := by
  unfold notNl
  go_enter Try.func49, Try.ntmps49
  go_wp2
  all_goals
    go_ret
    exact ⟨ret_bool rfl, rfl⟩


def spanL (p : UInt8 → Bool) (l : List UInt8) : Nat := (l.takeWhile p).length

theorem spanL_le (p : UInt8 → Bool) (l : List UInt8) : spanL p l ≤ l.length := by
  unfold spanL; exact (List.takeWhile_sublist p).length_le

theorem spanL_at (p : UInt8 → Bool) (l : List UInt8) (k : Nat) (h1 : k ≤ l.length) (h2 : ∀ j (h : j < l.length), j < k → p l[j] = true)
    (h3 : ∀ h : k < l.length, p l[k] = false) : spanL p l = k := by
  unfold spanL
  induction l generalizing k with
  | nil => simp at h1; subst h1; rfl
  | cons a l ih =>
    cases k with
    | zero => have := h3 (by simp); simp at this; simp [List.takeWhile, this]
    | succ k =>
      have ha := h2 0 (by simp) (by omega)
      simp at ha
      simp only [List.takeWhile, ha, List.length_cons]
      congr 1
      refine ih k (by simpa using h1) (fun j h hj => ?_) (fun h => ?_)
      · have := h2 (j+1) (by simp; omega) (by omega); simpa using this
      · have := h3 (by simp; omega); simpa using this

set_option maxHeartbeats 400000 in
theorem span_digit (s : ByteArray) (w : World) (hs : s.size ≤ maxLen) :
    Calls Try.prog 48 #[.string s, .func (.func 67) #[] #[]] w fun e w' => e = .returned (.int .i64 (spanL isDigit s.data.toList)) ∧ w = w' := by
  unfold maxLen at hs
  go_enter Try.func48, Try.ntmps48
  go_wp2
  go_loop [5] (fun i => ∃ k : Nat, k ≤ s.size ∧ i = .int .i64 k ∧ Hid (∀ j (h : j < s.data.toList.length), j < k → isDigit s.data.toList[j] = true)) (fun i => s.size - (intOf i).toNat)
  case atStart => exact ⟨0, Nat.zero_le _, rfl, fun _ _ h => absurd h (by omega)⟩
  case round =>
    obtain ⟨k, hk, rfl, hP⟩ := hrel
    by_cases hlt : k < s.size
    · cases hp : isDigit s[k]
      · go_wp2_with (go_at_call 67; refine (digit_any _ _).mono ?_; rintro e w' ⟨rfl, rfl⟩)
        go_ret
        exact ⟨ret_int (by rw [spanL_at _ _ k (by simpa using hk) hP.out (fun h => by simp only [Array.getElem_toList]; exact hp)]), rfl⟩
      · go_wp2_with (go_at_call 67; refine (digit_any _ _).mono ?_; rintro e w' ⟨rfl, rfl⟩)
        go_round
        case rel =>
          refine ⟨k + 1, by omega, by go_num, fun j h hj => ?_⟩
          by_cases hjk : j < k
          · exact hP.out j h hjk
          · obtain rfl : j = k := by omega
            simp only [Array.getElem_toList]; exact hp
        case measure => simp [intOf]; omega
    · go_wp2
      go_ret
      exact ⟨ret_int (by rw [spanL_at _ _ k (by simpa using hk) hP.out (fun h => absurd h (by simpa using hlt))]), rfl⟩

set_option maxHeartbeats 400000 in
theorem span_inWord (s : ByteArray) (w : World) (hs : s.size ≤ maxLen) :
    Calls Try.prog 48 #[.string s, .func (.func 66) #[] #[]] w fun e w' => e = .returned (.int .i64 (spanL isTail s.data.toList)) ∧ w = w' := by
  unfold maxLen at hs
  go_enter Try.func48, Try.ntmps48
  go_wp2
  go_loop [5] (fun i => ∃ k : Nat, k ≤ s.size ∧ i = .int .i64 k ∧ Hid (∀ j (h : j < s.data.toList.length), j < k → isTail s.data.toList[j] = true)) (fun i => s.size - (intOf i).toNat)
  case atStart => exact ⟨0, Nat.zero_le _, rfl, fun _ _ h => absurd h (by omega)⟩
  case round =>
    obtain ⟨k, hk, rfl, hP⟩ := hrel
    by_cases hlt : k < s.size
    · cases hp : isTail s[k]
      · go_wp2_with (go_at_call 66; refine (inWord_any _ _).mono ?_; rintro e w' ⟨rfl, rfl⟩)
        go_ret
        exact ⟨ret_int (by rw [spanL_at _ _ k (by simpa using hk) hP.out (fun h => by simp only [Array.getElem_toList]; exact hp)]), rfl⟩
      · go_wp2_with (go_at_call 66; refine (inWord_any _ _).mono ?_; rintro e w' ⟨rfl, rfl⟩)
        go_round
        case rel =>
          refine ⟨k + 1, by omega, by go_num, fun j h hj => ?_⟩
          by_cases hjk : j < k
          · exact hP.out j h hjk
          · obtain rfl : j = k := by omega
            simp only [Array.getElem_toList]; exact hp
        case measure => simp [intOf]; omega
    · go_wp2
      go_ret
      exact ⟨ret_int (by rw [spanL_at _ _ k (by simpa using hk) hP.out (fun h => absurd h (by simpa using hlt))]), rfl⟩

set_option maxHeartbeats 400000 in
theorem span_notNl (s : ByteArray) (w : World) (hs : s.size ≤ maxLen) :
    Calls Try.prog 48 #[.string s, .func (.func 49) #[] #[]] w fun e w' => e = .returned (.int .i64 (spanL notNl s.data.toList)) ∧ w = w' := by
  unfold maxLen at hs
  go_enter Try.func48, Try.ntmps48
  go_wp2
  go_loop [5] (fun i => ∃ k : Nat, k ≤ s.size ∧ i = .int .i64 k ∧ Hid (∀ j (h : j < s.data.toList.length), j < k → notNl s.data.toList[j] = true)) (fun i => s.size - (intOf i).toNat)
  case atStart => exact ⟨0, Nat.zero_le _, rfl, fun _ _ h => absurd h (by omega)⟩
  case round =>
    obtain ⟨k, hk, rfl, hP⟩ := hrel
    by_cases hlt : k < s.size
    · cases hp : notNl s[k]
      · go_wp2_with (go_at_call 49; refine (notNl_any _ _).mono ?_; rintro e w' ⟨rfl, rfl⟩)
        go_ret
        exact ⟨ret_int (by rw [spanL_at _ _ k (by simpa using hk) hP.out (fun h => by simp only [Array.getElem_toList]; exact hp)]), rfl⟩
      · go_wp2_with (go_at_call 49; refine (notNl_any _ _).mono ?_; rintro e w' ⟨rfl, rfl⟩)
        go_round
        case rel =>
          refine ⟨k + 1, by omega, by go_num, fun j h hj => ?_⟩
          by_cases hjk : j < k
          · exact hP.out j h hjk
          · obtain rfl : j = k := by omega
            simp only [Array.getElem_toList]; exact hp
        case measure => simp [intOf]; omega
    · go_wp2
      go_ret
      exact ⟨ret_int (by rw [spanL_at _ _ k (by simpa using hk) hP.out (fun h => absurd h (by simpa using hlt))]), rfl⟩

end Go.Proofs.Ythdcgplocdehjaa
