import Derived.Test.YthdcgplocdehjaaLxWa
import Derived.Test.YthdcgplocdehjaaLxShelf
import Derived.BigQuiet
import Derived.Deep.QuietTactic
namespace Go.Proofs.Ythdcgplocdehjaa
open Go.RowKit

theorem drop_at (s : ByteArray) (k : Nat) (h : k < s.size) : s.data.toList.drop k = s[k] :: s.data.toList.drop (k+1) := by
  rw [List.drop_eq_getElem_cons (by rw [← Lib.size_eq]; exact h)]; rfl
theorem drop_end (s : ByteArray) (k : Nat) (h : ¬ k < s.size) : s.data.toList.drop k = [] := by
  rw [List.drop_of_length_le (by rw [← Lib.size_eq]; omega)]
theorem ext_from (s : ByteArray) (k : Nat) : (s.extract k s.size).data.toList = s.data.toList.drop k := by
  rw [Lib.extract_data, List.take_of_length_le (by rw [List.length_drop, ← Lib.size_eq]; omega)]
theorem ext_to (s : ByteArray) (k : Nat) : (s.extract 0 k).data.toList = s.data.toList.take k := by
  rw [Lib.extract_data, List.drop_zero, Nat.sub_zero]

def isBlank (c : UInt8) : Bool := ((c.toNat : Int) == 32) || ((c.toNat : Int) == 9) || ((c.toNat : Int) == 10) || ((c.toNat : Int) == 13)

def skipF : Bool → List UInt8 → Nat
  | _, [] => 0
  | false, c :: r => if isBlank c then 1 + skipF false r else if (c.toNat : Int) == 35 then 1 + skipF true r else 0
  | true, c :: r => if (c.toNat : Int) == 10 then 1 + skipF false r else 1 + skipF true r

theorem skipF_true (r : List UInt8) : skipF true r = spanL notNl r + skipF false (r.drop (spanL notNl r)) := by
  induction r with
  | nil => rfl
  | cons c r ih =>
    by_cases h : (c.toNat : Int) == 10
    · have h1 : spanL notNl (c :: r) = 0 := by simp only [beq_iff_eq] at h; simp [spanL, List.takeWhile, notNl, h]
      have h2 : isBlank c = true := by simp [isBlank, h]
      rw [h1]; simp [skipF, h, h2]
    · have h1 : spanL notNl (c :: r) = spanL notNl r + 1 := by
        have : notNl c = true := by simp [notNl, bne]; simpa using h
        simp [spanL, List.takeWhile, this]
      rw [h1]
      simp only [skipF, h, List.drop_succ_cons]
      simp only [Bool.false_eq_true, if_false]
      omega

theorem skipF_comment (l : List UInt8) (c : UInt8) (r : List UInt8) (hl : l = c :: r) (h : ((c.toNat : Int) == 35) = true) :
    skipF false l = spanL notNl l + skipF false (l.drop (spanL notNl l)) := by
  have hb : isBlank c = false := by simp only [beq_iff_eq] at h; simp [isBlank, h]
  have hn : notNl c = true := by simp only [beq_iff_eq] at h; simp [notNl, h]
  have h1 : spanL notNl l = spanL notNl r + 1 := by subst hl; simp [spanL, List.takeWhile, hn]
  rw [h1]; subst hl
  simp only [skipF, hb, h, if_true, List.drop_succ_cons, Bool.false_eq_true, if_false]
  rw [skipF_true]; omega

theorem skipF_le (b : Bool) (l : List UInt8) : skipF b l ≤ l.length := by
  induction l generalizing b with
  | nil => cases b <;> exact Nat.le_refl _
  | cons c r ih =>
    have h1 := ih true
    have h2 := ih false
    cases b <;> simp only [skipF, List.length_cons] <;> (repeat' split) <;> omega

set_option maxHeartbeats 1000000 in
theorem skip_any (s : ByteArray) (w : World) (hs : s.size ≤ maxLen) :
    Calls Try.prog 32 #[.string s] w fun e w' => e = .returned (.int .i64 (skipF false s.data.toList)) ∧ w = w' := by
  have hs' := hs
  unfold maxLen at hs'
  go_enter Try.func32, Try.ntmps32
  go_wp2
  go_loop [3] (fun i => ∃ k : Nat, k ≤ s.size ∧ i = .int .i64 k ∧ Hid (skipF false s.data.toList = k + skipF false (s.data.toList.drop k))) (fun i => s.size - (intOf i).toNat)
  case atStart => exact ⟨0, Nat.zero_le _, rfl, Lib.hid (by simp)⟩
  case round =>
    obtain ⟨k, hk, rfl, hP⟩ := hrel
    by_cases hlt : k < s.size
    · have hd := Lib.hid (drop_at s k hlt)
      obtain ⟨m, hm⟩ : ∃ m, m = spanL notNl (s.data.toList.drop k) := ⟨_, rfl⟩
      have hml : m ≤ s.size - k := by rw [hm]; refine Nat.le_trans (spanL_le _ _) ?_; rw [List.length_drop, ← Lib.size_eq]; exact Nat.le_refl _
      have HSZ : Hid ((s.extract k s.size).size ≤ maxLen) := Lib.hid (by rw [Lib.size_eq, ext_from, List.length_drop, ← Lib.size_eq]; unfold maxLen; omega)
      have HC := fun h => skipF_comment _ _ _ hd.out h
      rw [← hm] at HC
      have HC' := Lib.hid HC
      have hmp : ((s[k].toNat : Int) == 35) = true → 1 ≤ m := by
        intro h
        have hn : notNl s[k] = true := by simp only [beq_iff_eq] at h; simp [notNl, h]
        rw [hm, hd.out]; simp [spanL, List.takeWhile, hn]
      have HM := Lib.hid hm
      have HMP := Lib.hid hmp
      clear HC hm hmp
      have fin0 : isBlank s[k] = true → skipF false s.data.toList = (k + 1) + skipF false (s.data.toList.drop (k+1)) := by
        intro h; rw [hP.out, hd.out, skipF, if_pos h]; omega
      have FIN0 := Lib.hid fin0
      clear fin0
      go_wp2_with (go_at_call 48; refine (span_notNl _ _ HSZ.out).mono ?_; rintro e w' ⟨rfl, rfl⟩; rw [ext_from, ← HM.out])
      all_goals first
        | (have hb : isBlank s[k] = true := by simp [isBlank, *]
           go_round
           case rel => exact ⟨k + 1, by omega, by go_num, Lib.hid (FIN0.out hb)⟩
           case measure => simp [intOf]; omega)
        | (have hb : ((s[k].toNat : Int) == 35) = true := by assumption
           have h1 := HMP.out hb
           go_round
           case rel => exact ⟨k + m, by omega, by go_num, Lib.hid (by rw [hP.out, HC'.out hb, List.drop_drop]; omega)⟩
           case measure => simp [intOf]; omega)
        | (have hb : isBlank s[k] = false := by simp [isBlank, *]
           have hb2 : ((s[k].toNat : Int) == 35) = false := by assumption
           go_ret
           exact ⟨ret_int (by rw [hP.out, hd.out, skipF, if_neg (by simp [hb]), hb2]; rfl), rfl⟩)
    · go_wp2
      go_ret
      exact ⟨ret_int (by rw [hP.out, drop_end s k hlt]; simp [skipF]), rfl⟩

end Go.Proofs.Ythdcgplocdehjaa
