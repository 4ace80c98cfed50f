import Derived.Test.YthdcgplocdehjaaLxWb
import Derived.Test.YthdcgplocdehjaaLxWd
namespace Go.Proofs.Ythdcgplocdehjaa
open Go.RowKit Go.Proofs.Kit

/-- strings.Cut at "/". -/
def cutL (l : List UInt8) : Option (List UInt8 × List UInt8) :=
  if 0 ≤ Lib.indexByte l 47 then some (l.take (Lib.indexByte l 47).toNat, l.drop ((Lib.indexByte l 47).toNat + 1)) else none

def CRet (l : List UInt8) (e : Ending) : Prop := match cutL l with
  | some (a, b) => e = .returned (.tuple #[.string ⟨a.toArray⟩, .string ⟨b.toArray⟩, .bool true])
  | none => e = .returned (.tuple #[.string ⟨l.toArray⟩, .string ⟨#[]⟩, .bool false])

theorem ret_ssb {a b c d : ByteArray} {x : Bool} (h : a = b) (k : c = d) : Ending.returned (.tuple #[.string a, .string c, .bool x]) = .returned (.tuple #[.string b, .string d, .bool x]) := by rw [h, k]

theorem indexByte_lt (l : List UInt8) (c : UInt8) : Lib.indexByte l c < l.length ∨ Lib.indexByte l c = -1 := by
  induction l with
  | nil => right; rfl
  | cons b l ih =>
    unfold Lib.indexByte
    split
    · left; simp
    · split
      · right; rfl
      · rename_i h; left; simp at h; rcases ih with h1 | h1
        · simp; omega
        · exact absurd h1 h

set_option maxHeartbeats 2000000 in
theorem cut42_any (s : ByteArray) (w : World) (hs : s.size ≤ maxLen) :
    Calls Try.prog 77 #[.string s, .string ⟨#[47]⟩] w fun e w' => CRet s.data.toList e ∧ Below w.heap.size w w' := by
  obtain ⟨i, hi⟩ : ∃ i, i = Lib.indexByte s.data.toList 47 := ⟨_, rfl⟩
  have hlt := indexByte_lt s.data.toList 47
  rw [← hi, ← Lib.size_eq] at hlt
  unfold maxLen at hs
  have HI := Lib.hid hi
  have key : cutL s.data.toList = if 0 ≤ i then some (s.data.toList.take i.toNat, s.data.toList.drop (i.toNat + 1)) else none := by
    unfold cutL; rw [← hi]
  have KEY := Lib.hid key
  clear hi key
  by_cases c1 : 0 ≤ i
  · obtain ⟨n, rfl⟩ := Int.eq_ofNat_of_zero_le c1
    have hn : n < s.size := by rcases hlt with h | h <;> omega
    clear hlt c1
    have KEY2 : Hid (cutL s.data.toList = some (s.data.toList.take n, s.data.toList.drop (n + 1))) := by have := KEY.out; rw [if_pos (by omega)] at this; exact this
    go_enter Try.func77, Try.ntmps77
    go_wp2_with (go_at_call 64; refine (Try.stringslite_Index_one _ _ _).mono ?_; rintro e w' ⟨rfl, rfl⟩; rw [← HI.out])
    go_quiet (fail)
    go_wp2
    go_ret3
    refine ⟨?_, below_drewN (Below.refl _ _) _⟩
    unfold CRet
    rw [KEY2.out]
    exact ret_ssb (by rw [Lib.extract_eq, List.drop_zero, Nat.sub_zero]) (by rw [← Lib.mk_data (s.extract (n+1) s.size), ext_from])
  · have KEY2 : Hid (cutL s.data.toList = none) := by have := KEY.out; rw [if_neg c1] at this; exact this
    clear hlt
    go_enter Try.func77, Try.ntmps77
    go_wp2_with (go_at_call 64; refine (Try.stringslite_Index_one _ _ _).mono ?_; rintro e w' ⟨rfl, rfl⟩; rw [← HI.out])
    go_ret3
    refine ⟨?_, Below.refl _ _⟩
    unfold CRet
    rw [KEY2.out]
    exact ret_ssb (by rw [Lib.mk_data]) rfl

set_option maxHeartbeats 1000000 in
theorem cut_any (s : ByteArray) (w : World) (hs : s.size ≤ maxLen) :
    Calls Try.prog 69 #[.string s, .string ⟨#[47]⟩] w fun e w' => CRet s.data.toList e ∧ Below w.heap.size w w' := by
  go_enter Try.func69, Try.ntmps69
  cases hc : cutL s.data.toList with
  | none =>
    have HC := Lib.hid hc
    clear hc
    go_wp2_with (go_at_call 77; refine (cut42_any _ _ hs).mono ?_; unfold CRet; rw [HC.out]; rintro e w' ⟨rfl, hb⟩)
    go_ret3
    exact ⟨by unfold CRet; rw [HC.out]; rfl, hb⟩
  | some x =>
    obtain ⟨a, b⟩ := x
    have HC := Lib.hid hc
    clear hc
    go_wp2_with (go_at_call 77; refine (cut42_any _ _ hs).mono ?_; unfold CRet; rw [HC.out]; rintro e w' ⟨rfl, hb⟩)
    go_ret3
    exact ⟨by unfold CRet; rw [HC.out]; rfl, hb⟩

def bareL (l : List UInt8) : Bool :=
  if l.length = 0 then false
  else if wordL l = l.length ∨ numL l = l.length then true
  else match cutL l with
    | none => false
    | some (a, b) => decide (0 < a.length) && decide (0 < b.length) && decide (numL a = a.length) && decide (numL b = b.length)

theorem cutL_len {l a b : List UInt8} (h : cutL l = some (a, b)) : a.length ≤ l.length ∧ b.length ≤ l.length := by
  unfold cutL at h
  split at h
  · simp only [Option.some.injEq, Prod.mk.injEq] at h
    rw [← h.1, ← h.2]
    exact ⟨by rw [List.length_take]; omega, by rw [List.length_drop]; omega⟩
  · simp at h

set_option maxHeartbeats 2000000 in
theorem bare_any (s : ByteArray) (w : World) (hs : s.size ≤ maxLen) :
    Calls Try.prog 59 #[.string s] w fun e w' => e = .returned (.bool (bareL s.data.toList)) ∧ Below w.heap.size w w' := by
  by_cases h0 : 0 < s.size
  · have hE : s.toList.isEmpty = false := bempty_f s h0
    obtain ⟨x, hx⟩ : ∃ x, x = wordL s.data.toList := ⟨_, rfl⟩
    obtain ⟨y, hy⟩ : ∃ y, y = numL s.data.toList := ⟨_, rfl⟩
    have key : bareL s.data.toList = if x = s.size ∨ y = s.size then true else match cutL s.data.toList with
        | none => false
        | some (a, b) => decide (0 < a.length) && decide (0 < b.length) && decide (numL a = a.length) && decide (numL b = b.length) := by
      unfold bareL; rw [← Lib.size_eq, if_neg (by omega), ← hx, ← hy]
    have KEY := Lib.hid key
    have HX := Lib.hid hx
    have HY := Lib.hid hy
    clear key hx hy
    by_cases c1 : x = s.size
    · have b1 : ((x : Int) == (s.size : Int)) = true := by simp [c1]
      have k1 : Hid (bareL s.data.toList = true) := by have := KEY.out; rw [if_pos (.inl c1)] at this; exact this
      clear c1
      go_enter Try.func59, Try.ntmps59
      go_wp2_with (go_at_call 53; refine (word_any _ _ hs).mono ?_; rintro e w' ⟨rfl, rfl⟩; rw [← HX.out])
      go_ret
      exact ⟨ret_bool (by rw [k1.out]), Below.refl _ _⟩
    have b1 : ((x : Int) == (s.size : Int)) = false := by rw [beq_eq_false_iff_ne]; omega
    by_cases c2 : y = s.size
    · have b2 : ((y : Int) == (s.size : Int)) = true := by simp [c2]
      have k1 : Hid (bareL s.data.toList = true) := by have := KEY.out; rw [if_pos (.inr c2)] at this; exact this
      clear c2 c1
      go_enter Try.func59, Try.ntmps59
      go_wp2_with (first
        | (go_at_call 53; refine (word_any _ _ hs).mono ?_; rintro e w' ⟨rfl, rfl⟩; rw [← HX.out])
        | (go_at_call 54; refine (number_any _ _ hs).mono ?_; rintro e w' ⟨rfl, rfl⟩; rw [← HY.out]))
      go_ret
      exact ⟨ret_bool (by rw [k1.out]), Below.refl _ _⟩
    have b2 : ((y : Int) == (s.size : Int)) = false := by rw [beq_eq_false_iff_ne]; omega
    cases hc : cutL s.data.toList with
    | none =>
      have k1 : Hid (bareL s.data.toList = false) := by have := KEY.out; rw [if_neg (by omega), hc] at this; exact this
      have HC := Lib.hid hc
      clear hc c1 c2
      go_enter Try.func59, Try.ntmps59
      go_wp2_with (first
        | (go_at_call 53; refine (word_any _ _ hs).mono ?_; rintro e w' ⟨rfl, rfl⟩; rw [← HX.out])
        | (go_at_call 54; refine (number_any _ _ hs).mono ?_; rintro e w' ⟨rfl, rfl⟩; rw [← HY.out])
        | (go_at_call 69; refine (cut_any _ _ hs).mono ?_; unfold CRet; rw [HC.out]; rintro e w' ⟨rfl, hb⟩))
      go_ret
      exact ⟨ret_bool (by rw [k1.out]), hb⟩
    | some z =>
      obtain ⟨a, b⟩ := z
      have k1 : Hid (bareL s.data.toList = (decide (0 < a.length) && decide (0 < b.length) && decide (numL a = a.length) && decide (numL b = b.length))) := by
        have := KEY.out; rw [if_neg (by omega), hc] at this; exact this
      have hl := cutL_len hc
      rw [← Lib.size_eq] at hl
      have HC := Lib.hid hc
      clear hc c1 c2
      obtain ⟨A, hA⟩ : ∃ A : ByteArray, A = ⟨a.toArray⟩ := ⟨_, rfl⟩
      obtain ⟨B, hB⟩ : ∃ B : ByteArray, B = ⟨b.toArray⟩ := ⟨_, rfl⟩
      have hAd : A.data.toList = a := by rw [hA]
      have hBd : B.data.toList = b := by rw [hB]
      have hAs : A.size = a.length := by rw [Lib.size_eq, hAd]
      have hBs : B.size = b.length := by rw [Lib.size_eq, hBd]
      have sA : Hid (A.size ≤ maxLen) := Lib.hid (by omega)
      have sB : Hid (B.size ≤ maxLen) := Lib.hid (by omega)
      have HA := Lib.hid hA
      have HB := Lib.hid hB
      have HC2 : Hid (CRet s.data.toList = fun e => e = .returned (.tuple #[.string A, .string B, .bool true])) := Lib.hid (by funext e; unfold CRet; rw [HC.out]; simp only []; rw [hA, hB])
      have HAd := Lib.hid hAd
      have HBd := Lib.hid hBd
      obtain ⟨p, hp⟩ : ∃ p, p = numL a := ⟨_, rfl⟩
      obtain ⟨q, hq⟩ : ∃ q, q = numL b := ⟨_, rfl⟩
      rw [← hp, ← hq, ← hAs, ← hBs] at k1
      have HP := Lib.hid hp
      have HQ := Lib.hid hq
      clear hA hB hAd hBd hl hp hq hAs hBs
      have e1 : decide (0 < A.size) = !A.toList.isEmpty := by
        by_cases h : 0 < A.size
        · rw [bempty_f A h]; simp [h]
        · rw [bempty_t A h]; simp [h]
      have e2 : decide (0 < B.size) = !B.toList.isEmpty := by
        by_cases h : 0 < B.size
        · rw [bempty_f B h]; simp [h]
        · rw [bempty_t B h]; simp [h]
      have e3 : decide (p = A.size) = ((p : Int) == (A.size : Int)) := by rw [Bool.eq_iff_iff]; simp; omega
      have e4 : decide (q = B.size) = ((q : Int) == (B.size : Int)) := by rw [Bool.eq_iff_iff]; simp; omega
      rw [e1, e2, e3, e4] at k1
      clear e1 e2 e3 e4
      cases d1 : A.toList.isEmpty
      all_goals cases d2 : B.toList.isEmpty
      all_goals cases d3 : ((p : Int) == (A.size : Int))
      all_goals
        rw [d1, d2, d3] at k1
        go_enter Try.func59, Try.ntmps59
        go_wp2_with (first
          | (go_at_call 53; refine (word_any _ _ hs).mono ?_; rintro e w' ⟨rfl, rfl⟩; rw [← HX.out])
          | (go_at_call 54; refine (number_any _ _ (by first | (with_reducible exact hs) | (with_reducible exact sA.out) | (with_reducible exact sB.out))).mono ?_; rintro e w' ⟨rfl, rfl⟩; first | rw [← HY.out] | rw [HAd.out, ← HP.out] | rw [HBd.out, ← HQ.out])
          | (go_at_call 69; refine (cut_any _ _ hs).mono ?_; rw [HC2.out]; rintro e w' ⟨rfl, hb⟩))
        go_ret
        refine ⟨ret_bool ?_, hb⟩
        rw [k1.out]
        rfl
  · have hE : s.toList.isEmpty = true := bempty_t s h0
    have HW : Hid (bareL s.data.toList = false) := by rw [data_nil s h0]; rfl
    clear h0
    go_enter Try.func59, Try.ntmps59
    go_wp2
    go_ret
    exact ⟨ret_bool (by rw [HW.out]), Below.refl _ _⟩

end Go.Proofs.Ythdcgplocdehjaa
