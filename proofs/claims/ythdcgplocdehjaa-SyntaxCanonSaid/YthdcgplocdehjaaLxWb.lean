import Derived.Test.YthdcgplocdehjaaLxWa
import Derived.Test.YthdcgplocdehjaaLxShelf
import Derived.BigQuiet
import Derived.Deep.QuietTactic
namespace Go.Proofs.Ythdcgplocdehjaa
open Go.RowKit

theorem bempty_t (s : ByteArray) (h : ¬ 0 < s.size) : s.toList.isEmpty = true := by
  rw [Lib.toList_data]; rw [Lib.size_eq] at h
  cases hl : s.data.toList with
  | nil => rfl
  | cons a r => rw [hl] at h; simp at h
theorem bempty_f (s : ByteArray) (h : 0 < s.size) : s.toList.isEmpty = false := by
  rw [Lib.toList_data]; rw [Lib.size_eq] at h
  cases hl : s.data.toList with
  | nil => rw [hl] at h; simp at h
  | cons a r => rfl
theorem data_nil (s : ByteArray) (h : ¬ 0 < s.size) : s.data.toList = [] := by
  rw [Lib.size_eq] at h
  cases hl : s.data.toList with
  | nil => rfl
  | cons a r => rw [hl] at h; simp at h
theorem data_cons (s : ByteArray) (h : 0 < s.size) : ∃ r, s.data.toList = s[0] :: r := by
  have h' : 0 < s.data.toList.length := by rw [← Lib.size_eq]; exact h
  refine ⟨s.data.toList.drop 1, ?_⟩
  have := List.drop_eq_getElem_cons (l := s.data.toList) (i := 0) h'
  simp only [List.drop_zero] at this
  exact this
theorem data_at (s : ByteArray) (k : Nat) (h : k < s.size) : s.data.toList[k]'(by rw [← Lib.size_eq]; exact h) = s[k] := rfl

def wordL (l : List UInt8) : Nat := match l with | [] => 0 | c :: _ => if isLetter c then spanL isTail l else 0

theorem wordL_le (l : List UInt8) : wordL l ≤ l.length := by
  unfold wordL; split
  · exact Nat.zero_le _
  · split
    · exact spanL_le _ _
    · exact Nat.zero_le _

theorem wordL_ne (s : ByteArray) (h : 0 < s.size) : wordL s.data.toList = if isLetter s[0] then spanL isTail s.data.toList else 0 := by
  obtain ⟨r, hr⟩ := data_cons s h
  rw [hr]; rfl

set_option maxHeartbeats 400000 in
theorem word_any (s : ByteArray) (w : World) (hs : s.size ≤ maxLen) :
    Calls Try.prog 53 #[.string s] w fun e w' => e = .returned (.int .i64 (wordL s.data.toList)) ∧ w = w' := by
  by_cases h0 : 0 < s.size
  · have hE : s.toList.isEmpty = false := bempty_f s h0
    have HW := Lib.hid (wordL_ne s h0)
    cases hl : isLetter s[0]
    all_goals
      go_enter Try.func53, Try.ntmps53
      go_wp2_with (first
        | (go_at_call 65; refine (letter_any _ _).mono ?_; rintro e w' ⟨rfl, rfl⟩)
        | (go_at_call 48; refine (span_inWord _ _ hs).mono ?_; rintro e w' ⟨rfl, rfl⟩))
      go_ret
      exact ⟨ret_int (by rw [HW.out, hl]; rfl), rfl⟩
  · have hE : s.toList.isEmpty = true := bempty_t s h0
    have HW : Hid (wordL s.data.toList = 0) := by rw [data_nil s h0]; rfl
    clear h0
    go_enter Try.func53, Try.ntmps53
    go_wp2
    go_ret
    exact ⟨ret_int (by rw [HW.out]; rfl), rfl⟩

def numL (l : List UInt8) : Nat :=
  if spanL isDigit l = 0 ∨ 6 < spanL isDigit l then 0
  else if l.head? = some 48 ∧ 1 < spanL isDigit l then 0
  else if (l.drop (spanL isDigit l)).head?.any isTail then 0 else spanL isDigit l

theorem numL_le (l : List UInt8) : numL l ≤ l.length := by
  have := spanL_le isDigit l
  unfold numL; repeat' split
  all_goals omega

set_option maxHeartbeats 1000000 in
theorem number_any (s : ByteArray) (w : World) (hs : s.size ≤ maxLen) :
    Calls Try.prog 54 #[.string s] w fun e w' => e = .returned (.int .i64 (numL s.data.toList)) ∧ w = w' := by
  obtain ⟨n, hn⟩ : ∃ n, n = spanL isDigit s.data.toList := ⟨_, rfl⟩
  have hle : n ≤ s.size := by rw [hn, Lib.size_eq]; exact spanL_le _ _
  have hs' := hs
  unfold maxLen at hs'
  have HN := Lib.hid hn
  have hd : s.data.toList.drop n = if h : n < s.size then s[n] :: s.data.toList.drop (n+1) else [] := by
    split
    · rename_i h
      rw [List.drop_eq_getElem_cons (by rw [← Lib.size_eq]; exact h)]; rfl
    · rename_i h
      rw [List.drop_of_length_le (by rw [← Lib.size_eq]; omega)]
  have hh : ∀ h : 0 < s.size, s.data.toList.head? = some s[0] := fun h => by obtain ⟨r, hr⟩ := data_cons s h; rw [hr]; rfl
  have key : Hid (numL s.data.toList = if n = 0 ∨ 6 < n then 0 else if s.data.toList.head? = some 48 ∧ 1 < n then 0
      else if (s.data.toList.drop n).head?.any isTail then 0 else n) := by rw [hn]; rfl
  have HD := Lib.hid hd
  have HH := Lib.hid hh
  clear hd hh hn
  by_cases c1 : n = 0
  · have k1 : Hid (numL s.data.toList = 0) := by have := key.out; rw [if_pos (by omega)] at this; exact this
    have b1 : ((n : Int) == 0) = true := by simp; exact c1
    have c1' := Lib.hid c1
    clear c1
    go_enter Try.func54, Try.ntmps54
    go_wp2_with (first
      | (go_at_call 48; refine (span_digit _ _ hs).mono ?_; rintro e w' ⟨rfl, rfl⟩; rw [← HN.out]))
    go_ret
    exact ⟨ret_int (by rw [k1.out]; rfl), rfl⟩
  by_cases c2 : 6 < n
  · have k1 : Hid (numL s.data.toList = 0) := by have := key.out; rw [if_pos (by omega)] at this; exact this
    have b1 : ((n : Int) == 0) = false := by simp; exact c1
    go_enter Try.func54, Try.ntmps54
    go_wp2_with (first
      | (go_at_call 48; refine (span_digit _ _ hs).mono ?_; rintro e w' ⟨rfl, rfl⟩; rw [← HN.out]))
    go_ret
    exact ⟨ret_int (by rw [k1.out]; rfl), rfl⟩
  have h0 : 0 < s.size := by omega
  have b1 : ((n : Int) == 0) = false := by simp; exact c1
  have key2 : Hid (numL s.data.toList = if s[0] = 48 ∧ 1 < n then 0
      else if (s.data.toList.drop n).head?.any isTail then 0 else n) := by
    have := key.out; rw [if_neg (by omega), HH.out h0] at this; simp only [Option.some.injEq] at this; exact this
  by_cases c3 : s[0] = 48 ∧ 1 < n
  · have k1 : Hid (numL s.data.toList = 0) := by have := key2.out; rw [if_pos c3] at this; exact this
    have b2 : ((s[0].toNat : Int) == 48) = true := by rw [c3.1]; rfl
    have c4 := c3.2
    clear c3
    go_enter Try.func54, Try.ntmps54
    go_wp2_with (first
      | (go_at_call 48; refine (span_digit _ _ hs).mono ?_; rintro e w' ⟨rfl, rfl⟩; rw [← HN.out]))
    go_ret
    exact ⟨ret_int (by rw [k1.out]; rfl), rfl⟩
  have key3 : Hid (numL s.data.toList = if (s.data.toList.drop n).head?.any isTail then 0 else n) := by
    have := key2.out; rw [if_neg c3] at this; exact this
  have c3' : (((s[0].toNat : Int) == 48) = false) ∨ (((s[0].toNat : Int) == 48) = true ∧ ¬ 1 < n) := by
    by_cases h : s[0] = 48
    · right; exact ⟨by rw [h]; rfl, fun h' => c3 ⟨h, h'⟩⟩
    · left; rw [beq_eq_false_iff_ne]; intro h'; exact h (UInt8.toNat_inj.1 (by simp; omega))
  clear c3
  have fin : ∀ b : Bool, (b = true → ∃ h : n < s.size, isTail s[n] = true) → (b = false → ∀ h : n < s.size, isTail s[n] = false) → ((numL s.data.toList : Int) = if b then 0 else (n:Int)) := by
    intro b h1 h2
    rw [key3.out, HD.out]
    cases b
    · by_cases h : n < s.size
      · have := h2 rfl h
        simp [h, this]
      · simp [h]
    · obtain ⟨h, h'⟩ := h1 rfl
      simp [h, h']
  have fin' := Lib.hid fin
  clear fin
  by_cases hlt : n < s.size
  · cases ht : isTail s[n]
    · have k1 := Lib.hid (fin'.out false (by simp) (fun _ _ => ht))
      rcases c3' with b2 | ⟨b2, b3⟩
      all_goals
        go_enter Try.func54, Try.ntmps54
        go_wp2_with (first
          | (go_at_call 48; refine (span_digit _ _ hs).mono ?_; rintro e w' ⟨rfl, rfl⟩; rw [← HN.out])
          | (go_at_call 66; refine (inWord_any _ _).mono ?_; rintro e w' ⟨rfl, rfl⟩))
        go_ret
        exact ⟨ret_int (by rw [k1.out]; rfl), rfl⟩
    · have k1 := Lib.hid (fin'.out true (fun _ => ⟨hlt, ht⟩) (by simp))
      rcases c3' with b2 | ⟨b2, b3⟩
      all_goals
        go_enter Try.func54, Try.ntmps54
        go_wp2_with (first
          | (go_at_call 48; refine (span_digit _ _ hs).mono ?_; rintro e w' ⟨rfl, rfl⟩; rw [← HN.out])
          | (go_at_call 66; refine (inWord_any _ _).mono ?_; rintro e w' ⟨rfl, rfl⟩))
        go_ret
        exact ⟨ret_int (by rw [k1.out]; rfl), rfl⟩
  · have k1 := Lib.hid (fin'.out false (by simp) (fun _ h => absurd h hlt))
    rcases c3' with b2 | ⟨b2, b3⟩
    all_goals
      go_enter Try.func54, Try.ntmps54
      go_wp2_with (first
        | (go_at_call 48; refine (span_digit _ _ hs).mono ?_; rintro e w' ⟨rfl, rfl⟩; rw [← HN.out]))
      go_ret
      exact ⟨ret_int (by rw [k1.out]; rfl), rfl⟩

end Go.Proofs.Ythdcgplocdehjaa
