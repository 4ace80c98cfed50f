import Derived.Test.YthdcgplocdehjaaLxRa
namespace Go.Proofs.Ythdcgplocdehjaa
open Go.RowKit Go.Proofs.Kit

def plainL (l : List UInt8) : Bool := l.all isPrint

set_option maxHeartbeats 1000000 in
theorem plain_any (s : ByteArray) (w : World) (hs : s.size ≤ maxLen) :
    Calls Try.prog 42 #[.string s] w fun e w' => e = .returned (.bool (plainL s.data.toList)) ∧ w = w' := by
  unfold maxLen at hs
  go_enter Try.func42, Try.ntmps42
  go_wp2_with fail
  go_loop [3] (fun i => ∃ k : Nat, k ≤ s.size ∧ i = .int .i64 k ∧ Hid ((s.data.toList.take k).all isPrint = true)) (fun i => s.size - (intOf i).toNat)
  case atStart => exact ⟨0, Nat.zero_le _, rfl, Lib.hid (by simp)⟩
  case round =>
    obtain ⟨k, hk, rfl, hP⟩ := hrel
    by_cases hlt : k < s.size
    · have hts := Lib.hid (take_snoc s k hlt)
      by_cases c1 : (s[k].toNat : Int) < 32
      · have hp : isPrint s[k] = false := by unfold isPrint; simp; omega
        go_wp2_with fail
        go_ret
        exact ⟨ret_bool (by unfold plainL; rw [all_false_at s k hlt isPrint hp]), rfl⟩
      by_cases c2 : 126 < (s[k].toNat : Int)
      · have hp : isPrint s[k] = false := by unfold isPrint; simp; omega
        go_wp2_with fail
        go_ret
        exact ⟨ret_bool (by unfold plainL; rw [all_false_at s k hlt isPrint hp]), rfl⟩
      have hp : isPrint s[k] = true := by unfold isPrint; simp; omega
      go_wp2_with fail
      go_round
      case rel => exact ⟨k + 1, by omega, by go_num, Lib.hid (by rw [hts.out, List.all_append, hP.out]; simpa using hp)⟩
      case measure => simp [intOf]; omega
    · go_wp2_with fail
      go_ret
      refine ⟨ret_bool ?_, rfl⟩
      have := hP.out
      rw [List.take_of_length_le (by rw [← Lib.size_eq]; omega)] at this
      unfold plainL
      exact this.symm

theorem data_app' (a b : ByteArray) : (a ++ b).data.toList = a.data.toList ++ b.data.toList := Go.Joins.data_append a b
theorem ext_one' (s : ByteArray) (k : Nat) (h : k < s.size) : (s.extract k (k+1)).data.toList = [s[k]] := by
  rw [Lib.extract_data, drop_at s k h, show k + 1 - k = 1 by omega]; rfl

theorem ret_sb {s t : ByteArray} {b : Bool} (h' : s = t) : Ending.returned (.tuple #[.string s, .bool b]) = .returned (.tuple #[.string t, .bool b]) := by rw [h']

set_option maxHeartbeats 2000000 in
theorem rquote_any (s : ByteArray) (w : World) (hs : s.size ≤ 1000000) :
    Calls Try.prog 27 #[.string s] w fun e w' => e = .returned (.tuple #[.string ⟨(quoteL s.data.toList).1.toArray⟩, .bool (quoteL s.data.toList).2]) ∧ w = w' := by
  have HM : Hid (s.size ≤ maxLen) := Lib.hid (by unfold maxLen; omega)
  cases hp : plainL s.data.toList
  · have HQ : Hid (quoteL s.data.toList = ([], false)) := Lib.hid (by unfold plainL at hp; unfold quoteL; rw [hp]; rfl)
    have HP := Lib.hid hp
    clear hp
    go_enter Try.func27, Try.ntmps27
    go_wp2_with (go_at_call 42; refine (plain_any _ _ HM.out).mono ?_; rintro e w' ⟨rfl, rfl⟩; rw [HP.out])
    go_ret2
    exact ⟨by rw [HQ.out]; rfl, rfl⟩
  · have HQ : Hid (quoteL s.data.toList = (34 :: escL s.data.toList ++ [34], true)) := Lib.hid (by unfold plainL at hp; unfold quoteL; rw [hp]; rfl)
    have HP := Lib.hid hp
    clear hp
    go_enter Try.func27, Try.ntmps27
    go_wp2_with (go_at_call 42; refine (plain_any _ _ HM.out).mono ?_; rintro e w' ⟨rfl, rfl⟩; rw [HP.out])
    go_loop [4, 5] (fun t i => ∃ k : Nat, ∃ T : ByteArray, k ≤ s.size ∧ T.size ≤ 2 * k + 1 ∧ t = .string T ∧ i = .int .i64 k ∧ Hid (T.data.toList = 34 :: escL (s.data.toList.take k))) (fun _ i => s.size - (intOf i).toNat)
    case atStart => exact ⟨0, ⟨#[34]⟩, by omega, by show 1 ≤ _; omega, rfl, rfl, Lib.hid (by simp [escL])⟩
    case round =>
      obtain ⟨k, T, hk, hT, rfl, rfl, hA⟩ := hrel
      by_cases hlt : k < s.size
      · have hts := Lib.hid (take_snoc s k hlt)
        cases c1 : ((s[k].toNat : Int) == 34 || (s[k].toNat : Int) == 92)
        · have d1 : ((s[k].toNat : Int) == 34) = false := by rw [Bool.or_eq_false_iff] at c1; exact c1.1
          have d2 : ((s[k].toNat : Int) == 92) = false := by rw [Bool.or_eq_false_iff] at c1; exact c1.2
          have C1 := Lib.hid c1
          clear c1
          go_wp2_with fail
          go_round
          case rel =>
            refine ⟨k + 1, T ++ s.extract k (k+1), by omega, ?_, rfl, by go_num, Lib.hid ?_⟩
            · rw [Lib.size_eq, data_app', ext_one' s k hlt, List.length_append, ← Lib.size_eq]; simp; omega
            · rw [data_app', ext_one' s k hlt, hA.out, hts.out, escL_snoc, C1.out]; simp
          case measure => simp [intOf]; omega
        · have C1 := Lib.hid c1
          by_cases d1 : (s[k].toNat : Int) = 34
          · have d1' : ((s[k].toNat : Int) == 34) = true := by simp [d1]
            clear c1 d1
            go_wp2_with fail
            go_round
            case rel =>
              refine ⟨k + 1, T ++ ⟨#[92]⟩ ++ s.extract k (k+1), by omega, ?_, rfl, by go_num, Lib.hid ?_⟩
              · rw [Lib.size_eq, data_app', data_app', ext_one' s k hlt, List.length_append, List.length_append, ← Lib.size_eq]; simp; omega
              · rw [data_app', data_app', ext_one' s k hlt, hA.out, hts.out, escL_snoc, C1.out]; simp
            case measure => simp [intOf]; omega
          · have d1' : ((s[k].toNat : Int) == 34) = false := by rw [beq_eq_false_iff_ne]; exact d1
            have d2' : ((s[k].toNat : Int) == 92) = true := by rw [d1'] at c1; simpa using c1
            clear c1 d1
            go_wp2_with fail
            go_round
            case rel =>
              refine ⟨k + 1, T ++ ⟨#[92]⟩ ++ s.extract k (k+1), by omega, ?_, rfl, by go_num, Lib.hid ?_⟩
              · rw [Lib.size_eq, data_app', data_app', ext_one' s k hlt, List.length_append, List.length_append, ← Lib.size_eq]; simp; omega
              · rw [data_app', data_app', ext_one' s k hlt, hA.out, hts.out, escL_snoc, C1.out]; simp
            case measure => simp [intOf]; omega
      · go_wp2_with fail
        go_ret2
        refine ⟨?_, rfl⟩
        rw [HQ.out]
        refine ret_sb ?_
        rw [← Lib.mk_data (T ++ _), data_app', hA.out, List.take_of_length_le (by rw [← Lib.size_eq]; omega)]

end Go.Proofs.Ythdcgplocdehjaa
