import Derived.Test.YtcbocdkpdedogaaDoorR20
import Derived.Test.YtcbocdkpdedogaaDoorMS
import Derived.Laws.Strings3
import Derived.BigCall
import Derived.BigGuard
import Derived.Deep.Draws
namespace Go.Proofs.YtcbocdkpdedogaaDoor
open Go.RowKit Go.Proofs.Kit Go.Proofs.Nums

set_option maxRecDepth 1000000 in
set_option maxHeartbeats 4000000 in
theorem idx_one (s : ByteArray) (w : World) :
    Calls Tryd.prog 95 #[.string s, .string ⟨#[47]⟩] w fun e w' => e = .returned (.int .i64 (Lib.indexByte s.data.toList 47)) ∧ w' = w := by
  have IB := Lib.hid (fun w => Tryd.stringslite_IndexByte s 47 w)
  by_cases h : s.data.toList = [47]
  · have hl : s.toList = [47] := by rw [ByteArray.toList_eq]; exact h
    have hs : s = ⟨#[47]⟩ := by apply ByteArray.ext; rw [← Array.toList_inj]; exact h
    subst hs
    go_enter Tryd.func95, Tryd.ntmps95
    go_wp2_with fail
    go_ret
    exact ⟨rfl, rfl⟩
  · have hl : (s.toList == [47]) = false := by rw [ByteArray.toList_eq, beq_eq_false_iff_ne]; exact h
    have hl2 : (([47] : List UInt8) == s.toList) = false := by rw [ByteArray.toList_eq, beq_eq_false_iff_ne]; exact fun h' => h h'.symm
    have hl3 : ¬ s.toList = [47] := by rw [ByteArray.toList_eq]; exact h
    have hl4 : ¬ [47] = s.toList := fun h => hl3 h.symm
    clear h
    obtain ⟨R, hR⟩ : ∃ R, Lib.indexByte s.data.toList 47 = R := ⟨_, rfl⟩
    have IB2 : Hid (∀ w, Calls Tryd.prog 100 #[.string s, .int .u8 47] w fun e w' => e = .returned (.int .i64 R) ∧ w' = w) := Lib.hid (fun w => by rw [← hR]; exact IB.out w)
    rw [hR]
    clear IB hR
    go_enter Tryd.func95, Tryd.ntmps95
    go_wp2_with (go_at_call 100; (refine (IB2.out _).mono ?_; rintro e w3 ⟨rfl, rfl⟩))
    go_ret
    exact ⟨rfl, rfl⟩

theorem ext_upto (s : ByteArray) (k : Nat) : (s.extract 0 k).data.toList = s.data.toList.take k := by
  rw [Lib.extract_data, Nat.sub_zero, List.drop_zero]

/-- strings.Cut at '/'. -/
def cutB (l : List UInt8) : List UInt8 × List UInt8 × Bool :=
  if Lib.indexByte l 47 < 0 then (l, [], false) else (l.take (Lib.indexByte l 47).toNat, l.drop ((Lib.indexByte l 47).toNat + 1), true)

theorem indexByte_lt (l : List UInt8) (c : UInt8) (h : 0 ≤ Lib.indexByte l c) : Lib.indexByte l c < l.length := by
  induction l with
  | nil => unfold Lib.indexByte at h; omega
  | cons b l ih =>
    unfold Lib.indexByte at h ⊢
    rw [List.length_cons]
    by_cases h1 : (b == c) = true
    · rw [if_pos h1]; omega
    · rw [if_neg h1] at h ⊢
      by_cases h2 : (Lib.indexByte l c == -1) = true
      · rw [if_pos h2] at h; omega
      · rw [if_neg h2] at h ⊢
        have hg := Lib.indexByte_ge l c
        have : Lib.indexByte l c ≠ -1 := fun e => h2 (by rw [e]; rfl)
        have := ih (by omega)
        omega

end Go.Proofs.YtcbocdkpdedogaaDoor

namespace Go.Proofs.YtcbocdkpdedogaaDoor
open Go.RowKit Go.Proofs.Kit Go.Proofs.Nums

set_option maxHeartbeats 4000000 in
/-- Cut, where Index finds nothing. -/
theorem scut_miss (s sep : ByteArray) (w : World) (i : Int) (hi : i < 0) (IB : Hid (∀ w, Calls Tryd.prog 95 #[.string s, .string sep] w fun e w' => e = .returned (.int .i64 i) ∧ w' = w)) :
    Calls Tryd.prog 80 #[.string s, .string sep] w fun e w' => e = .returned (.tuple #[.string s, .string ⟨#[]⟩, .bool false]) ∧ Below w.heap.size w w' := by
  go_enter Tryd.func80, Tryd.ntmps80
  go_wp2_with (go_at_call 95; ((with_reducible refine (IB.out _).mono ?_); rintro e w3 ⟨rfl, rfl⟩))
  go_ret3
  exact ⟨rfl, Below.refl _ _⟩

set_option maxHeartbeats 4000000 in
/-- Cut, where Index finds it at i. -/
theorem scut_hit (s sep : ByteArray) (w : World) (i : Nat) (c2 : (↑i : Int) ≤ ↑s.size) (c4 : (↑i + ↑sep.size : Int) ≤ ↑s.size) (hs : s.size ≤ 1000000) (IB : Hid (∀ w, Calls Tryd.prog 95 #[.string s, .string sep] w fun e w' => e = .returned (.int .i64 (i : Int)) ∧ w' = w)) :
    Calls Tryd.prog 80 #[.string s, .string sep] w fun e w' => e = .returned (.tuple #[.string (s.extract 0 i), .string (s.extract (i + sep.size) s.size), .bool true]) ∧ Below w.heap.size w w' := by
  have c1 : (0 : Int) ≤ ↑i := by omega
  have c3 : (0 : Int) ≤ ↑i + ↑sep.size := by omega
  go_enter Tryd.func80, Tryd.ntmps80
  go_wp2_with (go_at_call 95; ((with_reducible refine (IB.out _).mono ?_); rintro e w3 ⟨rfl, rfl⟩))
  go_region
  go_wp2
  go_ret3
  exact ⟨rfl, (Below.refl _ _).drew⟩

theorem ext_drop (s : ByteArray) (k : Nat) : (s.extract k s.size).data.toList = s.data.toList.drop k := by
  rw [Lib.extract_data]
  rw [List.take_of_length_le (by rw [List.length_drop, Lib.size_eq]; omega)]
theorem bs_of {s : ByteArray} {l : List UInt8} (h : s.data.toList = l) : s = ⟨l.toArray⟩ := by
  apply ByteArray.ext
  rw [← Array.toList_inj, h]

/-- strings.Cut at '/'. -/
theorem cut_one (s : ByteArray) (w : World) (hs : s.size ≤ 1000000) :
    Calls Tryd.prog 55 #[.string s, .string ⟨#[47]⟩] w fun e w' => e = .returned (.tuple #[.string ⟨(cutB s.data.toList).1.toArray⟩, .string ⟨(cutB s.data.toList).2.1.toArray⟩, .bool (cutB s.data.toList).2.2]) ∧ Below w.heap.size w w' := by
  obtain ⟨sep, hsep⟩ : ∃ sep : ByteArray, (⟨#[47]⟩ : ByteArray) = sep := ⟨_, rfl⟩
  have hz : sep.size = 1 := by rw [← hsep]; rfl
  have IB := fun w => idx_one s w
  rw [hsep] at IB
  have key : Hid (∀ w, Calls Tryd.prog 80 #[.string s, .string sep] w fun e w' => e = .returned (.tuple #[.string ⟨(cutB s.data.toList).1.toArray⟩, .string ⟨(cutB s.data.toList).2.1.toArray⟩, .bool (cutB s.data.toList).2.2]) ∧ Below w.heap.size w w') := by
    refine Lib.hid fun w => ?_
    have hub := indexByte_lt s.data.toList 47
    unfold cutB
    rcases Int.lt_or_le (Lib.indexByte s.data.toList 47) 0 with h0 | h0
    · rw [if_pos h0]
      refine (scut_miss s sep w _ h0 (Lib.hid IB)).mono ?_
      rintro e w' ⟨rfl, hb⟩
      exact ⟨rfl, hb⟩
    · have hu := hub h0
      have hsz := Lib.size_eq s
      obtain ⟨n, hn⟩ : ∃ n : Nat, Lib.indexByte s.data.toList 47 = n := ⟨(Lib.indexByte s.data.toList 47).toNat, by omega⟩
      rw [hn] at hu IB ⊢
      rw [if_neg (by omega)]
      refine (scut_hit s sep w n (by omega) (by omega) hs (Lib.hid IB)).mono ?_
      rintro e w' ⟨rfl, hb⟩
      refine ⟨?_, hb⟩
      have e1 : s.extract 0 n = ⟨(s.data.toList.take n).toArray⟩ := bs_of (ext_upto s n)
      have e2 : s.extract (n + sep.size) s.size = ⟨(s.data.toList.drop (n + 1)).toArray⟩ := bs_of (by rw [hz]; exact ext_drop s (n + 1))
      rw [e1, e2]
      simp
  rw [hsep]
  obtain ⟨a, ha⟩ : ∃ a : ByteArray, (⟨(cutB s.data.toList).1.toArray⟩ : ByteArray) = a := ⟨_, rfl⟩
  obtain ⟨b, hb⟩ : ∃ b : ByteArray, (⟨(cutB s.data.toList).2.1.toArray⟩ : ByteArray) = b := ⟨_, rfl⟩
  obtain ⟨f, hf⟩ : ∃ f : Bool, (cutB s.data.toList).2.2 = f := ⟨_, rfl⟩
  rw [ha, hb, hf] at key ⊢
  clear ha hb hf hsep hz IB
  go_enter Tryd.func55, Tryd.ntmps55
  go_wp2_with (go_at_call 80; ((with_reducible refine (key.out _).mono ?_); rintro e w3 ⟨rfl, hb3⟩))
  go_ret3
  exact ⟨rfl, hb3⟩

end Go.Proofs.YtcbocdkpdedogaaDoor
