import Derived.Test.YthdcgplocdehjaaRows
import Derived.WalkKit
import Derived.WalkSpells
import Derived.WalkLawsBesides
import Derived.Lib.Hide
import Derived.Test.YthdcgplocdehjaaLxShelf
import Derived.BigQuiet
import Derived.Deep.QuietTactic
namespace Go.Proofs.Ythdcgplocdehjaa
open Go.RowKit

theorem ret_bool {a b : Bool} (h : a = b) : Ending.returned (.bool a) = .returned (.bool b) := by rw [h]
theorem ret_int {k : IntKind} {a b : Int} (h : a = b) : Ending.returned (.int k a) = .returned (.int k b) := by rw [h]

def isLetter (c : UInt8) : Bool := decide (97 ≤ (c.toNat : Int)) && decide ((c.toNat : Int) ≤ 122)
def isDigit (c : UInt8) : Bool := decide (48 ≤ (c.toNat : Int)) && decide ((c.toNat : Int) ≤ 57)
def isTail (c : UInt8) : Bool := isLetter c || isDigit c || ((c.toNat : Int) == 45)
def isPrint (c : UInt8) : Bool := decide (32 ≤ (c.toNat : Int)) && decide ((c.toNat : Int) ≤ 126)
def notNl (c : UInt8) : Bool := ((c.toNat : Int) != 10)

set_option maxHeartbeats 400000 in
theorem letter_any (c : UInt8) (w : World) :
    Calls Try.prog 65 #[.int .u8 c.toNat] w fun e w' => e = .returned (.bool (isLetter c)) ∧ w = w' := by
  unfold isLetter
  go_enter Try.func65, Try.ntmps65
  go_wp2
  all_goals
    go_ret
    exact ⟨ret_bool (by simp; try omega), rfl⟩

set_option maxHeartbeats 400000 in
theorem digit_any (c : UInt8) (w : World) :
    Calls Try.prog 67 #[.int .u8 c.toNat] w fun e w' => e = .returned (.bool (isDigit c)) ∧ w = w' := by
  unfold isDigit
  go_enter Try.func67, Try.ntmps67
  go_wp2
  all_goals
    go_ret
    exact ⟨ret_bool (by simp; try omega), rfl⟩

set_option maxHeartbeats 400000 in
theorem inWord_any (c : UInt8) (w : World) :
    Calls Try.prog 66 #[.int .u8 c.toNat] w fun e w' => e = .returned (.bool (isTail c)) ∧ w = w' := by
  go_enter Try.func66, Try.ntmps66
  go_wp2_with (first
    | (go_at_call 65; refine (letter_any _ _).mono ?_; rintro e w' ⟨rfl, rfl⟩)
    | (go_at_call 67; refine (digit_any _ _).mono ?_; rintro e w' ⟨rfl, rfl⟩))
  all_goals
    go_ret
    exact ⟨ret_bool (by simp [isTail, *]), rfl⟩

set_option maxHeartbeats 400000 in
theorem printable_any (c : UInt8) (w : World) :
    Calls Try.prog 39 #[.int .u8 c.toNat] w fun e w' => e = .returned (.bool (isPrint c)) ∧ w = w' := by
  unfold isPrint
  go_enter Try.func39, Try.ntmps39
  go_wp2
  all_goals
    go_ret
    exact ⟨ret_bool (by simp; try omega), rfl⟩

set_option maxHeartbeats 400000 in
theorem notNl_any (c : UInt8) (w : World) :
    Calls Try.prog 49 #[.int .u8 c.toNat] w fun e w' => e = .returned (.bool (notNl c)) ∧ w = w' := by
  unfold notNl
  go_enter Try.func49, Try.ntmps49
  go_wp2
  all_goals
    go_ret
    exact ⟨ret_bool rfl, rfl⟩


def spanL (p : UInt8 → Bool) (l : List UInt8) : Nat := (l.takeWhile p).length

theorem spanL_le (p : UInt8 → Bool) (l : List UInt8) : spanL p l ≤ l.length := by
  unfold spanL; exact (List.takeWhile_sublist p).length_le

theorem spanL_at (p : UInt8 → Bool) (l : List UInt8) (k : Nat) (h1 : k ≤ l.length) (h2 : ∀ j (h : j < l.length), j < k → p l[j] = true)
    (h3 : ∀ h : k < l.length, p l[k] = false) : spanL p l = k := by
  unfold spanL
  induction l generalizing k with
  | nil => simp at h1; subst h1; rfl
  | cons a l ih =>
    cases k with
    | zero => have := h3 (by simp); simp at this; simp [List.takeWhile, this]
    | succ k =>
      have ha := h2 0 (by simp) (by omega)
      simp at ha
      simp only [List.takeWhile, ha, List.length_cons]
      congr 1
      refine ih k (by simpa using h1) (fun j h hj => ?_) (fun h => ?_)
      · have := h2 (j+1) (by simp; omega) (by omega); simpa using this
      · have := h3 (by simp; omega); simpa using this

set_option maxHeartbeats 400000 in
theorem span_digit (s : ByteArray) (w : World) (hs : s.size ≤ maxLen) :
    Calls Try.prog 48 #[.string s, .func (.func 67) #[] #[]] w fun e w' => e = .returned (.int .i64 (spanL isDigit s.data.toList)) ∧ w = w' := by
  unfold maxLen at hs
  go_enter Try.func48, Try.ntmps48
  go_wp2
  go_loop [5] (fun i => ∃ k : Nat, k ≤ s.size ∧ i = .int .i64 k ∧ Hid (∀ j (h : j < s.data.toList.length), j < k → isDigit s.data.toList[j] = true)) (fun i => s.size - (intOf i).toNat)
  case atStart => exact ⟨0, Nat.zero_le _, rfl, fun _ _ h => absurd h (by omega)⟩
  case round =>
    obtain ⟨k, hk, rfl, hP⟩ := hrel
    by_cases hlt : k < s.size
    · cases hp : isDigit s[k]
      · go_wp2_with (go_at_call 67; refine (digit_any _ _).mono ?_; rintro e w' ⟨rfl, rfl⟩)
        go_ret
        exact ⟨ret_int (by rw [spanL_at _ _ k (by simpa using hk) hP.out (fun h => by simp only [Array.getElem_toList]; exact hp)]), rfl⟩
      · go_wp2_with (go_at_call 67; refine (digit_any _ _).mono ?_; rintro e w' ⟨rfl, rfl⟩)
        go_round
        case rel =>
          refine ⟨k + 1, by omega, by go_num, fun j h hj => ?_⟩
          by_cases hjk : j < k
          · exact hP.out j h hjk
          · obtain rfl : j = k := by omega
            simp only [Array.getElem_toList]; exact hp
        case measure => simp [intOf]; omega
    · go_wp2
      go_ret
      exact ⟨ret_int (by rw [spanL_at _ _ k (by simpa using hk) hP.out (fun h => absurd h (by simpa using hlt))]), rfl⟩

set_option maxHeartbeats 400000 in
theorem span_inWord (s : ByteArray) (w : World) (hs : s.size ≤ maxLen) :
    Calls Try.prog 48 #[.string s, .func (.func 66) #[] #[]] w fun e w' => e = .returned (.int .i64 (spanL isTail s.data.toList)) ∧ w = w' := by
  unfold maxLen at hs
  go_enter Try.func48, Try.ntmps48
  go_wp2
  go_loop [5] (fun i => ∃ k : Nat, k ≤ s.size ∧ i = .int .i64 k ∧ Hid (∀ j (h : j < s.data.toList.length), j < k → isTail s.data.toList[j] = true)) (fun i => s.size - (intOf i).toNat)
  case atStart => exact ⟨0, Nat.zero_le _, rfl, fun _ _ h => absurd h (by omega)⟩
  case round =>
    obtain ⟨k, hk, rfl, hP⟩ := hrel
    by_cases hlt : k < s.size
    · cases hp : isTail s[k]
      · go_wp2_with (go_at_call 66; refine (inWord_any _ _).mono ?_; rintro e w' ⟨rfl, rfl⟩)
        go_ret
        exact ⟨ret_int (by rw [spanL_at _ _ k (by simpa using hk) hP.out (fun h => by simp only [Array.getElem_toList]; exact hp)]), rfl⟩
      · go_wp2_with (go_at_call 66; refine (inWord_any _ _).mono ?_; rintro e w' ⟨rfl, rfl⟩)
        go_round
        case rel =>
          refine ⟨k + 1, by omega, by go_num, fun j h hj => ?_⟩
          by_cases hjk : j < k
          · exact hP.out j h hjk
          · obtain rfl : j = k := by omega
            simp only [Array.getElem_toList]; exact hp
        case measure => simp [intOf]; omega
    · go_wp2
      go_ret
      exact ⟨ret_int (by rw [spanL_at _ _ k (by simpa using hk) hP.out (fun h => absurd h (by simpa using hlt))]), rfl⟩

set_option maxHeartbeats 400000 in
theorem span_notNl (s : ByteArray) (w : World) (hs : s.size ≤ maxLen) :
    Calls Try.prog 48 #[.string s, .func (.func 49) #[] #[]] w fun e w' => e = .returned (.int .i64 (spanL notNl s.data.toList)) ∧ w = w' := by
  unfold maxLen at hs
  go_enter Try.func48, Try.ntmps48
  go_wp2
  go_loop [5] (fun i => ∃ k : Nat, k ≤ s.size ∧ i = .int .i64 k ∧ Hid (∀ j (h : j < s.data.toList.length), j < k → notNl s.data.toList[j] = true)) (fun i => s.size - (intOf i).toNat)
  case atStart => exact ⟨0, Nat.zero_le _, rfl, fun _ _ h => absurd h (by omega)⟩
  case round =>
    obtain ⟨k, hk, rfl, hP⟩ := hrel
    by_cases hlt : k < s.size
    · cases hp : notNl s[k]
      · go_wp2_with (go_at_call 49; refine (notNl_any _ _).mono ?_; rintro e w' ⟨rfl, rfl⟩)
        go_ret
        exact ⟨ret_int (by rw [spanL_at _ _ k (by simpa using hk) hP.out (fun h => by simp only [Array.getElem_toList]; exact hp)]), rfl⟩
      · go_wp2_with (go_at_call 49; refine (notNl_any _ _).mono ?_; rintro e w' ⟨rfl, rfl⟩)
        go_round
        case rel =>
          refine ⟨k + 1, by omega, by go_num, fun j h hj => ?_⟩
          by_cases hjk : j < k
          · exact hP.out j h hjk
          · obtain rfl : j = k := by omega
            simp only [Array.getElem_toList]; exact hp
        case measure => simp [intOf]; omega
    · go_wp2
      go_ret
      exact ⟨ret_int (by rw [spanL_at _ _ k (by simpa using hk) hP.out (fun h => absurd h (by simpa using hlt))]), rfl⟩

end Go.Proofs.Ythdcgplocdehjaa

namespace Go.Proofs.Ythdcgplocdehjaa
open Go.RowKit

theorem bempty_t (s : ByteArray) (h : ¬ 0 < s.size) : s.toList.isEmpty = true := by
  rw [Lib.toList_data]; rw [Lib.size_eq] at h
  cases hl : s.data.toList with
  | nil => rfl
  | cons a r => rw [hl] at h; simp at h
theorem bempty_f (s : ByteArray) (h : 0 < s.size) : s.toList.isEmpty = false := by
  rw [Lib.toList_data]; rw [Lib.size_eq] at h
  cases hl : s.data.toList with
  | nil => rw [hl] at h; simp at h
  | cons a r => rfl
theorem data_nil (s : ByteArray) (h : ¬ 0 < s.size) : s.data.toList = [] := by
  rw [Lib.size_eq] at h
  cases hl : s.data.toList with
  | nil => rfl
  | cons a r => rw [hl] at h; simp at h
theorem data_cons (s : ByteArray) (h : 0 < s.size) : ∃ r, s.data.toList = s[0] :: r := by
  have h' : 0 < s.data.toList.length := by rw [← Lib.size_eq]; exact h
  refine ⟨s.data.toList.drop 1, ?_⟩
  have := List.drop_eq_getElem_cons (l := s.data.toList) (i := 0) h'
  simp only [List.drop_zero] at this
  exact this
theorem data_at (s : ByteArray) (k : Nat) (h : k < s.size) : s.data.toList[k]'(by rw [← Lib.size_eq]; exact h) = s[k] := rfl

def wordL (l : List UInt8) : Nat := match l with | [] => 0 | c :: _ => if isLetter c then spanL isTail l else 0

theorem wordL_le (l : List UInt8) : wordL l ≤ l.length := by
  unfold wordL; split
  · exact Nat.zero_le _
  · split
    · exact spanL_le _ _
    · exact Nat.zero_le _

theorem wordL_ne (s : ByteArray) (h : 0 < s.size) : wordL s.data.toList = if isLetter s[0] then spanL isTail s.data.toList else 0 := by
  obtain ⟨r, hr⟩ := data_cons s h
  rw [hr]; rfl

set_option maxHeartbeats 400000 in
theorem word_any (s : ByteArray) (w : World) (hs : s.size ≤ maxLen) :
    Calls Try.prog 53 #[.string s] w fun e w' => e = .returned (.int .i64 (wordL s.data.toList)) ∧ w = w' := by
  by_cases h0 : 0 < s.size
  · have hE : s.toList.isEmpty = false := bempty_f s h0
    have HW := Lib.hid (wordL_ne s h0)
    cases hl : isLetter s[0]
    all_goals
      go_enter Try.func53, Try.ntmps53
      go_wp2_with (first
        | (go_at_call 65; refine (letter_any _ _).mono ?_; rintro e w' ⟨rfl, rfl⟩)
        | (go_at_call 48; refine (span_inWord _ _ hs).mono ?_; rintro e w' ⟨rfl, rfl⟩))
      go_ret
      exact ⟨ret_int (by rw [HW.out, hl]; rfl), rfl⟩
  · have hE : s.toList.isEmpty = true := bempty_t s h0
    have HW : Hid (wordL s.data.toList = 0) := by rw [data_nil s h0]; rfl
    clear h0
    go_enter Try.func53, Try.ntmps53
    go_wp2
    go_ret
    exact ⟨ret_int (by rw [HW.out]; rfl), rfl⟩

def numL (l : List UInt8) : Nat :=
  if spanL isDigit l = 0 ∨ 6 < spanL isDigit l then 0
  else if l.head? = some 48 ∧ 1 < spanL isDigit l then 0
  else if (l.drop (spanL isDigit l)).head?.any isTail then 0 else spanL isDigit l

theorem numL_le (l : List UInt8) : numL l ≤ l.length := by
  have := spanL_le isDigit l
  unfold numL; repeat' split
  all_goals omega

set_option maxHeartbeats 1000000 in
theorem number_any (s : ByteArray) (w : World) (hs : s.size ≤ maxLen) :
    Calls Try.prog 54 #[.string s] w fun e w' => e = .returned (.int .i64 (numL s.data.toList)) ∧ w = w' := by
  obtain ⟨n, hn⟩ : ∃ n, n = spanL isDigit s.data.toList := ⟨_, rfl⟩
  have hle : n ≤ s.size := by rw [hn, Lib.size_eq]; exact spanL_le _ _
  have hs' := hs
  unfold maxLen at hs'
  have HN := Lib.hid hn
  have hd : s.data.toList.drop n = if h : n < s.size then s[n] :: s.data.toList.drop (n+1) else [] := by
    split
    · rename_i h
      rw [List.drop_eq_getElem_cons (by rw [← Lib.size_eq]; exact h)]; rfl
    · rename_i h
      rw [List.drop_of_length_le (by rw [← Lib.size_eq]; omega)]
  have hh : ∀ h : 0 < s.size, s.data.toList.head? = some s[0] := fun h => by obtain ⟨r, hr⟩ := data_cons s h; rw [hr]; rfl
  have key : Hid (numL s.data.toList = if n = 0 ∨ 6 < n then 0 else if s.data.toList.head? = some 48 ∧ 1 < n then 0
      else if (s.data.toList.drop n).head?.any isTail then 0 else n) := by rw [hn]; rfl
  have HD := Lib.hid hd
  have HH := Lib.hid hh
  clear hd hh hn
  by_cases c1 : n = 0
  · have k1 : Hid (numL s.data.toList = 0) := by have := key.out; rw [if_pos (by omega)] at this; exact this
    have b1 : ((n : Int) == 0) = true := by simp; exact c1
    have c1' := Lib.hid c1
    clear c1
    go_enter Try.func54, Try.ntmps54
    go_wp2_with (first
      | (go_at_call 48; refine (span_digit _ _ hs).mono ?_; rintro e w' ⟨rfl, rfl⟩; rw [← HN.out]))
    go_ret
    exact ⟨ret_int (by rw [k1.out]; rfl), rfl⟩
  by_cases c2 : 6 < n
  · have k1 : Hid (numL s.data.toList = 0) := by have := key.out; rw [if_pos (by omega)] at this; exact this
    have b1 : ((n : Int) == 0) = false := by simp; exact c1
    go_enter Try.func54, Try.ntmps54
    go_wp2_with (first
      | (go_at_call 48; refine (span_digit _ _ hs).mono ?_; rintro e w' ⟨rfl, rfl⟩; rw [← HN.out]))
    go_ret
    exact ⟨ret_int (by rw [k1.out]; rfl), rfl⟩
  have h0 : 0 < s.size := by omega
  have b1 : ((n : Int) == 0) = false := by simp; exact c1
  have key2 : Hid (numL s.data.toList = if s[0] = 48 ∧ 1 < n then 0
      else if (s.data.toList.drop n).head?.any isTail then 0 else n) := by
    have := key.out; rw [if_neg (by omega), HH.out h0] at this; simp only [Option.some.injEq] at this; exact this
  by_cases c3 : s[0] = 48 ∧ 1 < n
  · have k1 : Hid (numL s.data.toList = 0) := by have := key2.out; rw [if_pos c3] at this; exact this
    have b2 : ((s[0].toNat : Int) == 48) = true := by rw [c3.1]; rfl
    have c4 := c3.2
    clear c3
    go_enter Try.func54, Try.ntmps54
    go_wp2_with (first
      | (go_at_call 48; refine (span_digit _ _ hs).mono ?_; rintro e w' ⟨rfl, rfl⟩; rw [← HN.out]))
    go_ret
    exact ⟨ret_int (by rw [k1.out]; rfl), rfl⟩
  have key3 : Hid (numL s.data.toList = if (s.data.toList.drop n).head?.any isTail then 0 else n) := by
    have := key2.out; rw [if_neg c3] at this; exact this
  have c3' : (((s[0].toNat : Int) == 48) = false) ∨ (((s[0].toNat : Int) == 48) = true ∧ ¬ 1 < n) := by
    by_cases h : s[0] = 48
    · right; exact ⟨by rw [h]; rfl, fun h' => c3 ⟨h, h'⟩⟩
    · left; rw [beq_eq_false_iff_ne]; intro h'; exact h (UInt8.toNat_inj.1 (by simp; omega))
  clear c3
  have fin : ∀ b : Bool, (b = true → ∃ h : n < s.size, isTail s[n] = true) → (b = false → ∀ h : n < s.size, isTail s[n] = false) → ((numL s.data.toList : Int) = if b then 0 else (n:Int)) := by
    intro b h1 h2
    rw [key3.out, HD.out]
    cases b
    · by_cases h : n < s.size
      · have := h2 rfl h
        simp [h, this]
      · simp [h]
    · obtain ⟨h, h'⟩ := h1 rfl
      simp [h, h']
  have fin' := Lib.hid fin
  clear fin
  by_cases hlt : n < s.size
  · cases ht : isTail s[n]
    · have k1 := Lib.hid (fin'.out false (by simp) (fun _ _ => ht))
      rcases c3' with b2 | ⟨b2, b3⟩
      all_goals
        go_enter Try.func54, Try.ntmps54
        go_wp2_with (first
          | (go_at_call 48; refine (span_digit _ _ hs).mono ?_; rintro e w' ⟨rfl, rfl⟩; rw [← HN.out])
          | (go_at_call 66; refine (inWord_any _ _).mono ?_; rintro e w' ⟨rfl, rfl⟩))
        go_ret
        exact ⟨ret_int (by rw [k1.out]; rfl), rfl⟩
    · have k1 := Lib.hid (fin'.out true (fun _ => ⟨hlt, ht⟩) (by simp))
      rcases c3' with b2 | ⟨b2, b3⟩
      all_goals
        go_enter Try.func54, Try.ntmps54
        go_wp2_with (first
          | (go_at_call 48; refine (span_digit _ _ hs).mono ?_; rintro e w' ⟨rfl, rfl⟩; rw [← HN.out])
          | (go_at_call 66; refine (inWord_any _ _).mono ?_; rintro e w' ⟨rfl, rfl⟩))
        go_ret
        exact ⟨ret_int (by rw [k1.out]; rfl), rfl⟩
  · have k1 := Lib.hid (fin'.out false (by simp) (fun _ h => absurd h hlt))
    rcases c3' with b2 | ⟨b2, b3⟩
    all_goals
      go_enter Try.func54, Try.ntmps54
      go_wp2_with (first
        | (go_at_call 48; refine (span_digit _ _ hs).mono ?_; rintro e w' ⟨rfl, rfl⟩; rw [← HN.out]))
      go_ret
      exact ⟨ret_int (by rw [k1.out]; rfl), rfl⟩

end Go.Proofs.Ythdcgplocdehjaa

namespace Go.Proofs.Ythdcgplocdehjaa
open Go.RowKit

theorem drop_at (s : ByteArray) (k : Nat) (h : k < s.size) : s.data.toList.drop k = s[k] :: s.data.toList.drop (k+1) := by
  rw [List.drop_eq_getElem_cons (by rw [← Lib.size_eq]; exact h)]; rfl
theorem drop_end (s : ByteArray) (k : Nat) (h : ¬ k < s.size) : s.data.toList.drop k = [] := by
  rw [List.drop_of_length_le (by rw [← Lib.size_eq]; omega)]
theorem ext_from (s : ByteArray) (k : Nat) : (s.extract k s.size).data.toList = s.data.toList.drop k := by
  rw [Lib.extract_data, List.take_of_length_le (by rw [List.length_drop, ← Lib.size_eq]; omega)]
theorem ext_to (s : ByteArray) (k : Nat) : (s.extract 0 k).data.toList = s.data.toList.take k := by
  rw [Lib.extract_data, List.drop_zero, Nat.sub_zero]

def isBlank (c : UInt8) : Bool := ((c.toNat : Int) == 32) || ((c.toNat : Int) == 9) || ((c.toNat : Int) == 10) || ((c.toNat : Int) == 13)

def skipF : Bool → List UInt8 → Nat
  | _, [] => 0
  | false, c :: r => if isBlank c then 1 + skipF false r else if (c.toNat : Int) == 35 then 1 + skipF true r else 0
  | true, c :: r => if (c.toNat : Int) == 10 then 1 + skipF false r else 1 + skipF true r

theorem skipF_true (r : List UInt8) : skipF true r = spanL notNl r + skipF false (r.drop (spanL notNl r)) := by
  induction r with
  | nil => rfl
  | cons c r ih =>
    by_cases h : (c.toNat : Int) == 10
    · have h1 : spanL notNl (c :: r) = 0 := by simp only [beq_iff_eq] at h; simp [spanL, List.takeWhile, notNl, h]
      have h2 : isBlank c = true := by simp [isBlank, h]
      rw [h1]; simp [skipF, h, h2]
    · have h1 : spanL notNl (c :: r) = spanL notNl r + 1 := by
        have : notNl c = true := by simp [notNl, bne]; simpa using h
        simp [spanL, List.takeWhile, this]
      rw [h1]
      simp only [skipF, h, List.drop_succ_cons]
      simp only [Bool.false_eq_true, if_false]
      omega

theorem skipF_comment (l : List UInt8) (c : UInt8) (r : List UInt8) (hl : l = c :: r) (h : ((c.toNat : Int) == 35) = true) :
    skipF false l = spanL notNl l + skipF false (l.drop (spanL notNl l)) := by
  have hb : isBlank c = false := by simp only [beq_iff_eq] at h; simp [isBlank, h]
  have hn : notNl c = true := by simp only [beq_iff_eq] at h; simp [notNl, h]
  have h1 : spanL notNl l = spanL notNl r + 1 := by subst hl; simp [spanL, List.takeWhile, hn]
  rw [h1]; subst hl
  simp only [skipF, hb, h, if_true, List.drop_succ_cons, Bool.false_eq_true, if_false]
  rw [skipF_true]; omega

theorem skipF_le (b : Bool) (l : List UInt8) : skipF b l ≤ l.length := by
  induction l generalizing b with
  | nil => cases b <;> exact Nat.le_refl _
  | cons c r ih =>
    have h1 := ih true
    have h2 := ih false
    cases b <;> simp only [skipF, List.length_cons] <;> (repeat' split) <;> omega

set_option maxHeartbeats 1000000 in
theorem skip_any (s : ByteArray) (w : World) (hs : s.size ≤ maxLen) :
    Calls Try.prog 32 #[.string s] w fun e w' => e = .returned (.int .i64 (skipF false s.data.toList)) ∧ w = w' := by
  have hs' := hs
  unfold maxLen at hs'
  go_enter Try.func32, Try.ntmps32
  go_wp2
  go_loop [3] (fun i => ∃ k : Nat, k ≤ s.size ∧ i = .int .i64 k ∧ Hid (skipF false s.data.toList = k + skipF false (s.data.toList.drop k))) (fun i => s.size - (intOf i).toNat)
  case atStart => exact ⟨0, Nat.zero_le _, rfl, Lib.hid (by simp)⟩
  case round =>
    obtain ⟨k, hk, rfl, hP⟩ := hrel
    by_cases hlt : k < s.size
    · have hd := Lib.hid (drop_at s k hlt)
      obtain ⟨m, hm⟩ : ∃ m, m = spanL notNl (s.data.toList.drop k) := ⟨_, rfl⟩
      have hml : m ≤ s.size - k := by rw [hm]; refine Nat.le_trans (spanL_le _ _) ?_; rw [List.length_drop, ← Lib.size_eq]; exact Nat.le_refl _
      have HSZ : Hid ((s.extract k s.size).size ≤ maxLen) := Lib.hid (by rw [Lib.size_eq, ext_from, List.length_drop, ← Lib.size_eq]; unfold maxLen; omega)
      have HC := fun h => skipF_comment _ _ _ hd.out h
      rw [← hm] at HC
      have HC' := Lib.hid HC
      have hmp : ((s[k].toNat : Int) == 35) = true → 1 ≤ m := by
        intro h
        have hn : notNl s[k] = true := by simp only [beq_iff_eq] at h; simp [notNl, h]
        rw [hm, hd.out]; simp [spanL, List.takeWhile, hn]
      have HM := Lib.hid hm
      have HMP := Lib.hid hmp
      clear HC hm hmp
      have fin0 : isBlank s[k] = true → skipF false s.data.toList = (k + 1) + skipF false (s.data.toList.drop (k+1)) := by
        intro h; rw [hP.out, hd.out, skipF, if_pos h]; omega
      have FIN0 := Lib.hid fin0
      clear fin0
      go_wp2_with (go_at_call 48; refine (span_notNl _ _ HSZ.out).mono ?_; rintro e w' ⟨rfl, rfl⟩; rw [ext_from, ← HM.out])
      all_goals first
        | (have hb : isBlank s[k] = true := by simp [isBlank, *]
           go_round
           case rel => exact ⟨k + 1, by omega, by go_num, Lib.hid (FIN0.out hb)⟩
           case measure => simp [intOf]; omega)
        | (have hb : ((s[k].toNat : Int) == 35) = true := by assumption
           have h1 := HMP.out hb
           go_round
           case rel => exact ⟨k + m, by omega, by go_num, Lib.hid (by rw [hP.out, HC'.out hb, List.drop_drop]; omega)⟩
           case measure => simp [intOf]; omega)
        | (have hb : isBlank s[k] = false := by simp [isBlank, *]
           have hb2 : ((s[k].toNat : Int) == 35) = false := by assumption
           go_ret
           exact ⟨ret_int (by rw [hP.out, hd.out, skipF, if_neg (by simp [hb]), hb2]; rfl), rfl⟩)
    · go_wp2
      go_ret
      exact ⟨ret_int (by rw [hP.out, drop_end s k hlt]; simp [skipF]), rfl⟩

end Go.Proofs.Ythdcgplocdehjaa
