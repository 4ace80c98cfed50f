import Derived.Test.YtcjgilfbcoadjaaWi
import Derived.Test.YtcjgilfbcoadjaaPl
namespace Go.Proofs.Ytcjgilfbcoadjaa
open Go.RowKit Go.Proofs.Kit

theorem short_size (s : ByteArray) (m : Nat) : (s.extract 0 (min s.size m)).size ≤ m := by
  rw [Lib.size_eq, ext_to, List.length_take]; omega

set_option maxHeartbeats 1000000 in
theorem walk_LexBare (a : ByteArray) (ha : a.size ≤ maxLen) (w : World) :
    Calls Try.prog 4 #[.string a] w fun e w' => e = .returned (.bool true) ∧ Below w.heap.size w w' := by
  obtain ⟨S, hS⟩ : ∃ S, S = a.extract 0 (min a.size 40) := ⟨_, rfl⟩
  have hs : S.size ≤ 40 := by rw [hS]; exact short_size a 40
  have HM : Hid (S.size ≤ maxLen) := Lib.hid (by unfold maxLen; omega)
  have HS := Lib.hid hS
  have HQ := Lib.hid (bare_eq S.data.toList)
  clear hS
  go_enter Try.func4, Try.ntmps4
  go_wp2_with (first
    | (go_at_call 9; refine (short_any _ 40 _ ha (by omega)).mono ?_; rintro e w1 ⟨rfl, rfl⟩; rw [← HS.out])
    | (go_at_call 12; refine (awake_any _).mono ?_; rintro e w2 ⟨rfl, hb2⟩)
    | (go_at_call 14; refine (bare_any _ _ HM.out).mono ?_; rintro e w3 ⟨rfl, hb3⟩)
    | (go_at_call 15; refine (rbare_any _ _ HM.out).mono ?_; rintro e w4 ⟨rfl, rfl⟩))
  go_ret
  refine ⟨ret_bool ?_, hb2.trans (hb3.mono hb2.size)⟩
  rw [HQ.out]
  simp

end Go.Proofs.Ytcjgilfbcoadjaa
