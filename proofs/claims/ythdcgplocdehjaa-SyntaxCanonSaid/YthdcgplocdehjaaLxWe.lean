import Derived.Test.YthdcgplocdehjaaLxWb
import Derived.Test.YthdcgplocdehjaaLxWd
namespace Go.Proofs.Ythdcgplocdehjaa
open Go.RowKit Go.Proofs.Kit

def isMark (c : UInt8) : Bool := decide (0 ≤ Lib.indexByte [123, 125, 59, 44, 47] c)

def nextL (l : List UInt8) : Option (Int × List UInt8 × Nat) :=
  if 0 < wordL l then some (1, l.take (wordL l), wordL l)
  else if 0 < numL l then some (2, l.take (numL l), numL l)
  else match l with
    | [] => none
    | c :: r => if (c.toNat : Int) == 34 then (strL r).map fun (t, n) => (3, t, n + 1) else if isMark c then some (4, [c], 1) else none

def NRet (x : Option (Int × List UInt8 × Nat)) (e : Ending) : Prop := match x with
  | some (k, t, n) => e = .returned (.tuple #[.int .i64 k, .string ⟨t.toArray⟩, .int .i64 n])
  | none => ∃ k, e = .returned (.tuple #[.int .i64 k, .string ⟨#[]⟩, .int .i64 0])

set_option maxHeartbeats 2000000 in
theorem next_any (s : ByteArray) (w : World) (hs : s.size ≤ 140737488351232) (h0 : 0 < s.size) :
    Calls Try.prog 34 #[.string s] w fun e w' => NRet (nextL s.data.toList) e ∧ Below w.heap.size w w' := by
  have hsm : s.size ≤ maxLen := by unfold maxLen; omega
  have HSM := Lib.hid hsm
  clear hsm
  obtain ⟨a, ha⟩ : ∃ a, a = wordL s.data.toList := ⟨_, rfl⟩
  obtain ⟨b, hb⟩ : ∃ b, b = numL s.data.toList := ⟨_, rfl⟩
  have ha' : a ≤ s.size := by rw [ha, Lib.size_eq]; exact wordL_le _
  have hb' : b ≤ s.size := by rw [hb, Lib.size_eq]; exact numL_le _
  obtain ⟨r, hr⟩ := data_cons s h0
  have HR := Lib.hid hr
  have HRL : Hid (s.data.toList.drop 1 = r) := by rw [hr]; exact Lib.hid rfl
  have key : nextL s.data.toList = if 0 < a then some ((1:Int), s.data.toList.take a, a) else if 0 < b then some (2, s.data.toList.take b, b)
      else if (s[0].toNat : Int) == 34 then (strL r).map fun (t, n) => ((3:Int), t, n + 1) else if isMark s[0] then some ((4:Int), [s[0]], 1) else none := by
    unfold nextL; rw [← ha, ← hb]
    split; rfl
    split; rfl
    rw [hr]
  have KEY := Lib.hid key
  have HA := Lib.hid ha
  have HB := Lib.hid hb
  have hx : ∀ n, s.extract 0 n = ⟨(s.data.toList.take n).toArray⟩ := fun n => by rw [Lib.extract_eq, List.drop_zero, Nat.sub_zero]
  have HX := Lib.hid hx
  clear hr key ha hb hx
  by_cases c1 : 0 < a
  · go_enter Try.func34, Try.ntmps34
    go_wp2_with (go_at_call 53; refine (word_any _ _ HSM.out).mono ?_; rintro e w' ⟨rfl, rfl⟩; rw [← HA.out])
    go_quiet (fail)
    go_wp2
    go_ret3
    refine ⟨?_, below_drewN (Below.refl _ _) _⟩
    rw [KEY.out, if_pos c1]
    show Ending.returned (.tuple #[_, .string _, _]) = _
    rw [HX.out]
    rfl
  by_cases c2 : 0 < b
  · go_enter Try.func34, Try.ntmps34
    go_wp2_with (first
      | (go_at_call 53; refine (word_any _ _ HSM.out).mono ?_; rintro e w' ⟨rfl, rfl⟩; rw [← HA.out])
      | (go_at_call 54; refine (number_any _ _ HSM.out).mono ?_; rintro e w' ⟨rfl, rfl⟩; rw [← HB.out]))
    go_quiet (fail)
    go_wp2
    go_ret3
    refine ⟨?_, below_drewN (Below.refl _ _) _⟩
    rw [KEY.out, if_neg c1, if_pos c2]
    show Ending.returned (.tuple #[_, .string _, _]) = _
    rw [HX.out]
    rfl
  have KEY2 : Hid (nextL s.data.toList = if (s[0].toNat : Int) == 34 then (strL r).map fun (t, n) => ((3:Int), t, n + 1) else if isMark s[0] then some ((4:Int), [s[0]], 1) else none) := by
    have := KEY.out; rw [if_neg c1, if_neg c2] at this; exact this
  clear KEY
  cases c3 : ((s[0].toNat : Int) == 34)
  · have KEY3 : Hid (nextL s.data.toList = if isMark s[0] then some ((4:Int), [s[0]], 1) else none) := by
      have := KEY2.out; rw [c3] at this; exact this
    have hmk : isMark s[0] = decide (0 ≤ Lib.indexByte [123, 125, 59, 44, 47] (Int.toNat (s[0].toNat : Int)).toUInt8) := by
      unfold isMark
      have : (Int.toNat (s[0].toNat : Int)).toUInt8 = s[0] := by simp
      rw [this]; rfl
    have HMK := Lib.hid hmk
    obtain ⟨x, hx⟩ : ∃ x, x = Lib.indexByte [123, 125, 59, 44, 47] (Int.toNat (s[0].toNat : Int)).toUInt8 := ⟨_, rfl⟩
    rw [← hx] at hmk
    have HXX := Lib.hid hx
    clear hx
    by_cases c4 : 0 ≤ x
    · have hmk1 : Hid (isMark s[0] = true) := Lib.hid (by rw [hmk]; simp [c4])
      clear hmk
      go_enter Try.func34, Try.ntmps34
      go_wp2_with (first
        | (go_at_call 53; refine (word_any _ _ HSM.out).mono ?_; rintro e w' ⟨rfl, rfl⟩; rw [← HA.out])
        | (go_at_call 54; refine (number_any _ _ HSM.out).mono ?_; rintro e w' ⟨rfl, rfl⟩; rw [← HB.out])
        | (go_at_call 56; refine (Try.strings_IndexByte _ _ _).mono ?_; rintro e w' ⟨rfl, rfl⟩; rw [← HXX.out]))
      go_quiet (fail)
      go_wp2
      go_ret3
      refine ⟨?_, below_drewN (Below.refl _ _) _⟩
      rw [KEY3.out, hmk1.out, if_pos rfl]
      show Ending.returned (.tuple #[_, .string _, _]) = _
      rw [HX.out, HR.out]
      rfl
    · have hmk1 : Hid (isMark s[0] = false) := Lib.hid (by rw [hmk]; simp; omega)
      clear hmk
      go_enter Try.func34, Try.ntmps34
      go_wp2_with (first
        | (go_at_call 53; refine (word_any _ _ HSM.out).mono ?_; rintro e w' ⟨rfl, rfl⟩; rw [← HA.out])
        | (go_at_call 54; refine (number_any _ _ HSM.out).mono ?_; rintro e w' ⟨rfl, rfl⟩; rw [← HB.out])
        | (go_at_call 56; refine (Try.strings_IndexByte _ _ _).mono ?_; rintro e w' ⟨rfl, rfl⟩; rw [← HXX.out]))
      go_ret3
      refine ⟨?_, Below.refl _ _⟩
      rw [KEY3.out, hmk1.out]
      exact ⟨_, rfl⟩
  · have KEY3 : Hid (nextL s.data.toList = (strL r).map fun (t, n) => ((3:Int), t, n + 1)) := by
      have := KEY2.out; rw [c3] at this; exact this
    clear KEY2
    go_enter Try.func34, Try.ntmps34
    cases hq : strL r with
    | none =>
      have HQ := Lib.hid hq
      clear hq
      go_wp2_with (first
        | (go_at_call 53; refine (word_any _ _ HSM.out).mono ?_; rintro e w' ⟨rfl, rfl⟩; rw [← HA.out])
        | (go_at_call 54; refine (number_any _ _ HSM.out).mono ?_; rintro e w' ⟨rfl, rfl⟩; rw [← HB.out])
        | (go_at_call 55; refine (quoted_any _ _ hs h0).mono ?_; rw [HRL.out, HQ.out]; rintro e w' ⟨rfl, hbq⟩))
      go_ret3
      refine ⟨?_, hbq⟩
      rw [KEY3.out, HQ.out]
      exact ⟨_, rfl⟩
    | some x =>
      obtain ⟨t, n⟩ := x
      have HQ := Lib.hid hq
      clear hq
      go_wp2_with (first
        | (go_at_call 53; refine (word_any _ _ HSM.out).mono ?_; rintro e w' ⟨rfl, rfl⟩; rw [← HA.out])
        | (go_at_call 54; refine (number_any _ _ HSM.out).mono ?_; rintro e w' ⟨rfl, rfl⟩; rw [← HB.out])
        | (go_at_call 55; refine (quoted_any _ _ hs h0).mono ?_; rw [HRL.out, HQ.out]; rintro e w' ⟨rfl, hbq⟩))
      go_ret3
      refine ⟨?_, hbq⟩
      rw [KEY3.out, HQ.out]
      rfl

end Go.Proofs.Ythdcgplocdehjaa
