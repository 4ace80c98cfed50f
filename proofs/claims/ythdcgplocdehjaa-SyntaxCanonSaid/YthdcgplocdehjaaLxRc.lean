import Derived.Test.YthdcgplocdehjaaLxRb
namespace Go.Proofs.Ythdcgplocdehjaa
open Go.RowKit Go.Proofs.Kit

/-- The reference's token. -/
def oneL (l : List UInt8) : Option (Int × List UInt8 × Nat) :=
  if wordB (l.take (spanL isTail l)) then some (1, l.take (spanL isTail l), spanL isTail l)
  else if numB (l.take (spanL isTail l)) then some (2, l.take (spanL isTail l), spanL isTail l)
  else match l with
    | [] => none
    | c :: r => if inL c [123, 125, 59, 44, 47] then some (4, [c], 1) else if (c.toNat : Int) == 34 then (strL r).map fun (t, n) => (3, t, n + 1) else none

set_option maxHeartbeats 4000000 in
theorem one_any (s : ByteArray) (w : World) (hs : s.size ≤ 140737488351232) (h0 : 0 < s.size) :
    Calls Try.prog 31 #[.string s] w fun e w' => NRet (oneL s.data.toList) e ∧ Below w.heap.size w w' := by
  have HSM : Hid (s.size ≤ maxLen) := Lib.hid (by unfold maxLen; omega)
  obtain ⟨n, hn⟩ : ∃ n, n = spanL isTail s.data.toList := ⟨_, rfl⟩
  have hle : n ≤ s.size := by rw [hn, Lib.size_eq]; exact spanL_le _ _
  obtain ⟨r, hr⟩ := data_cons s h0
  have HR := Lib.hid hr
  have HRL : Hid (s.data.toList.drop 1 = r) := by rw [hr]; exact Lib.hid rfl
  have key : oneL s.data.toList = if wordB (s.data.toList.take n) then some ((1:Int), s.data.toList.take n, n) else if numB (s.data.toList.take n) then some ((2:Int), s.data.toList.take n, n)
      else if inL s[0] [123, 125, 59, 44, 47] then some ((4:Int), [s[0]], 1) else if (s[0].toNat : Int) == 34 then (strL r).map fun (t, n) => ((3:Int), t, n + 1) else none := by
    unfold oneL; rw [← hn]
    split; rfl
    split; rfl
    rw [hr]
  have KEY := Lib.hid key
  have HN := Lib.hid hn
  have HX : Hid (∀ n, s.extract 0 n = ⟨(s.data.toList.take n).toArray⟩) := Lib.hid fun n => by rw [Lib.extract_eq, List.drop_zero, Nat.sub_zero]
  have H1 : Hid ((s.extract 0 n).size ≤ maxLen) := Lib.hid (by rw [Lib.size_eq, ext_to, List.length_take]; unfold maxLen; omega)
  clear hr key hn
  cases c1 : wordB (s.data.toList.take n)
  rotate_left
  · have C1 := Lib.hid c1
    clear c1
    go_enter Try.func31, Try.ntmps31
    go_wp2_with (first
      | (go_at_call 44; refine (run_any _ _ HSM.out).mono ?_; rintro e w' ⟨rfl, rfl⟩; rw [← HN.out])
      | (go_at_call 28; refine (rword_any _ _ H1.out).mono ?_; rintro e w' ⟨rfl, rfl⟩; rw [ext_to, C1.out]))
    go_quiet (fail)
    go_wp2
    go_ret3
    refine ⟨?_, below_drewN (Below.refl _ _) _⟩
    rw [KEY.out, C1.out, if_pos rfl]
    show Ending.returned (.tuple #[_, .string _, _]) = _
    rw [HX.out]
    rfl
  have C1 := Lib.hid c1
  clear c1
  cases c2 : numB (s.data.toList.take n)
  rotate_left
  · have C2 := Lib.hid c2
    clear c2
    go_enter Try.func31, Try.ntmps31
    go_wp2_with (first
      | (go_at_call 44; refine (run_any _ _ HSM.out).mono ?_; rintro e w' ⟨rfl, rfl⟩; rw [← HN.out])
      | (go_at_call 28; refine (rword_any _ _ H1.out).mono ?_; rintro e w' ⟨rfl, rfl⟩; rw [ext_to, C1.out])
      | (go_at_call 46; refine (rnumber_any _ _ H1.out).mono ?_; rintro e w' ⟨rfl, rfl⟩; rw [ext_to, C2.out]))
    go_quiet (fail)
    go_wp2
    go_ret3
    refine ⟨?_, below_drewN (Below.refl _ _) _⟩
    rw [KEY.out, C1.out, C2.out, if_neg (by simp), if_pos rfl]
    show Ending.returned (.tuple #[_, .string _, _]) = _
    rw [HX.out]
    rfl
  have C2 := Lib.hid c2
  have KEY2 : Hid (oneL s.data.toList = if inL s[0] [123, 125, 59, 44, 47] then some ((4:Int), [s[0]], 1) else if (s[0].toNat : Int) == 34 then (strL r).map fun (t, n) => ((3:Int), t, n + 1) else none) := Lib.hid (by
    have := KEY.out; rw [C1.out, C2.out, if_neg (by simp), if_neg (by simp)] at this; exact this)
  clear c2 KEY
  have HI : Hid ((⟨#[123, 125, 59, 44, 47]⟩ : ByteArray).size ≤ maxLen) := Lib.hid (by show 5 ≤ _; unfold maxLen; omega)
  cases c3 : inL s[0] [123, 125, 59, 44, 47]
  rotate_left
  · have C3 := Lib.hid c3
    clear c3
    go_enter Try.func31, Try.ntmps31
    go_wp2_with (first
      | (go_at_call 44; refine (run_any _ _ HSM.out).mono ?_; rintro e w' ⟨rfl, rfl⟩; rw [← HN.out])
      | (go_at_call 28; refine (rword_any _ _ H1.out).mono ?_; rintro e w' ⟨rfl, rfl⟩; rw [ext_to, C1.out])
      | (go_at_call 46; refine (rnumber_any _ _ H1.out).mono ?_; rintro e w' ⟨rfl, rfl⟩; rw [ext_to, C2.out])
      | (go_at_call 30; refine (in_any _ _ _ HI.out).mono ?_; rintro e w' ⟨rfl, rfl⟩; rw [show (⟨#[123, 125, 59, 44, 47]⟩ : ByteArray).data.toList = [123, 125, 59, 44, 47] from rfl, C3.out]))
    go_quiet (fail)
    go_wp2
    go_ret3
    refine ⟨?_, below_drewN (Below.refl _ _) _⟩
    rw [KEY2.out, C3.out, if_pos rfl]
    show Ending.returned (.tuple #[_, .string _, _]) = _
    rw [HX.out, HR.out]
    rfl
  have C3 := Lib.hid c3
  clear c3
  cases c4 : ((s[0].toNat : Int) == 34)
  · have KEY3 : Hid (oneL s.data.toList = none) := Lib.hid (by have := KEY2.out; rw [C3.out, c4] at this; exact this)
    go_enter Try.func31, Try.ntmps31
    go_wp2_with (first
      | (go_at_call 44; refine (run_any _ _ HSM.out).mono ?_; rintro e w' ⟨rfl, rfl⟩; rw [← HN.out])
      | (go_at_call 28; refine (rword_any _ _ H1.out).mono ?_; rintro e w' ⟨rfl, rfl⟩; rw [ext_to, C1.out])
      | (go_at_call 46; refine (rnumber_any _ _ H1.out).mono ?_; rintro e w' ⟨rfl, rfl⟩; rw [ext_to, C2.out])
      | (go_at_call 30; refine (in_any _ _ _ HI.out).mono ?_; rintro e w' ⟨rfl, rfl⟩; rw [show (⟨#[123, 125, 59, 44, 47]⟩ : ByteArray).data.toList = [123, 125, 59, 44, 47] from rfl, C3.out]))
    go_ret3
    refine ⟨?_, Below.refl _ _⟩
    rw [KEY3.out]
    exact ⟨_, rfl⟩
  · have KEY3 : Hid (oneL s.data.toList = (strL r).map fun (t, n) => ((3:Int), t, n + 1)) := Lib.hid (by have := KEY2.out; rw [C3.out, c4] at this; exact this)
    have H2 : Hid ((s.extract 1 s.size).size ≤ 140737488351232) := Lib.hid (by rw [Lib.size_eq, ext_from, List.length_drop, ← Lib.size_eq]; omega)
    cases hq : strL r with
    | none =>
      have HQ := Lib.hid hq
      clear hq
      go_enter Try.func31, Try.ntmps31
      go_wp2_with (first
        | (go_at_call 44; refine (run_any _ _ HSM.out).mono ?_; rintro e w' ⟨rfl, rfl⟩; rw [← HN.out])
        | (go_at_call 28; refine (rword_any _ _ H1.out).mono ?_; rintro e w' ⟨rfl, rfl⟩; rw [ext_to, C1.out])
        | (go_at_call 46; refine (rnumber_any _ _ H1.out).mono ?_; rintro e w' ⟨rfl, rfl⟩; rw [ext_to, C2.out])
        | (go_at_call 30; refine (in_any _ _ _ HI.out).mono ?_; rintro e w' ⟨rfl, rfl⟩; rw [show (⟨#[123, 125, 59, 44, 47]⟩ : ByteArray).data.toList = [123, 125, 59, 44, 47] from rfl, C3.out])
        | (go_at_call 47; refine (str_any _ _ H2.out).mono ?_; rw [ext_from, HRL.out, HQ.out]; rintro e w' ⟨rfl, rfl⟩))
      go_ret3
      refine ⟨?_, Below.refl _ _⟩
      rw [KEY3.out, HQ.out]
      exact ⟨_, rfl⟩
    | some x =>
      obtain ⟨t, m⟩ := x
      have hml := strL_len _ r t m (Nat.le_refl _) hq
      have hrl : r.length ≤ s.size := by rw [← HRL.out, List.length_drop, ← Lib.size_eq]; omega
      have HQ := Lib.hid hq
      clear hq
      go_enter Try.func31, Try.ntmps31
      go_wp2_with (first
        | (go_at_call 44; refine (run_any _ _ HSM.out).mono ?_; rintro e w' ⟨rfl, rfl⟩; rw [← HN.out])
        | (go_at_call 28; refine (rword_any _ _ H1.out).mono ?_; rintro e w' ⟨rfl, rfl⟩; rw [ext_to, C1.out])
        | (go_at_call 46; refine (rnumber_any _ _ H1.out).mono ?_; rintro e w' ⟨rfl, rfl⟩; rw [ext_to, C2.out])
        | (go_at_call 30; refine (in_any _ _ _ HI.out).mono ?_; rintro e w' ⟨rfl, rfl⟩; rw [show (⟨#[123, 125, 59, 44, 47]⟩ : ByteArray).data.toList = [123, 125, 59, 44, 47] from rfl, C3.out])
        | (go_at_call 47; refine (str_any _ _ H2.out).mono ?_; rw [ext_from, HRL.out, HQ.out]; rintro e w' ⟨rfl, rfl⟩))
      go_ret3
      refine ⟨?_, Below.refl _ _⟩
      rw [KEY3.out, HQ.out]
      rfl

end Go.Proofs.Ythdcgplocdehjaa
