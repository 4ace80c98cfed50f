import Derived.Test.YtaommeapngbgeaaDoorMJ
namespace Go.Proofs.YtaommeapngbgeaaDoor
open Go.RowKit Go.Proofs.Kit Go.Proofs.Nums

set_option maxHeartbeats 1000000 in
theorem pow10_out (z : Int) (w : World) (hz : z < 0 ∨ 60 < z) :
    Calls Tryd.prog 24 #[.int .i64 z] w fun e w' => e = .returned (.slice none 0 0) ∧ w = w' := by
  rcases hz with hz | hz
  · go_enter Tryd.func24, Tryd.ntmps24
    go_wp2_with fail
    go_ret
    exact ⟨rfl, rfl⟩
  · have h0 : ¬ z < 0 := by omega
    go_enter Tryd.func24, Tryd.ntmps24
    go_wp2_with fail
    go_ret
    exact ⟨rfl, rfl⟩

set_option maxHeartbeats 2000000 in
theorem pow10_in (n : Nat) (w : World) (hn : n ≤ 60) :
    Calls Tryd.prog 24 #[.int .i64 n] w fun e w' => ∃ v' o, e = .returned v' ∧ NatAt w' v' o ∧ Hid (val o = 10 ^ n ∧ o.length ≤ 61) ∧ Below w.heap.size w w' := by
  have L := Lib.hid (NatAt.lit1 w 1 (by omega))
  have SC : Hid (∀ v a w, NatAt w v a → Hid (a.length ≤ 61) → Calls Tryd.prog 48 #[v, .int .u64 10, .int .u64 0] w fun e w' => ∃ v' o, e = .returned v' ∧ NatAt w' v' o ∧ Hid (val o = val a * 10 ∧ o.length ≤ a.length + 1) ∧ Below w.heap.size w w') := Lib.hid fun v a w h1 h2 =>
    scale_any v a 10 0 w h1 (Nat.le_trans h2.out (by omega)) (by omega) (by omega)
  go_enter Tryd.func24, Tryd.ntmps24
  go_wp2_with fail
  go_loopw [3, 12] (fun ov i wr => ∃ k : Nat, ∃ o : List Nat, k ≤ n ∧ i = .int .i64 k ∧ NatAt wr ov o ∧ Below w.heap.size w wr ∧ Hid (val o = 10 ^ k ∧ o.length ≤ k + 1)) (fun _ i _ => n - (intOf i).toNat)
  case atStart => exact ⟨0, [1], by omega, rfl, L.out, (Below.refl _ _).alloc (Nat.le_refl _) _, Lib.hid ⟨by simp [val], by simp⟩⟩
  case round =>
    obtain ⟨k, o, hk, rfl, hO, hbel, hP⟩ := hrel
    by_cases hlt : k < n
    · have HL : Hid (o.length ≤ 61) := Lib.hid (Nat.le_trans hP.out.2 (by omega))
      go_wp2_with (go_at_call 48; ((with_reducible refine (SC.out _ _ _ hO HL).mono ?_); rintro e w4 ⟨v4, o4, rfl, hv4, h4, hb4⟩))
      go_roundw
      case rel => exact ⟨k + 1, o4, by omega, by go_num, hv4, bel2' hbel hb4, Lib.hid ⟨by rw [h4.out.1, hP.out.1, Nat.pow_succ], Nat.le_trans h4.out.2 (by have := hP.out.2; omega)⟩⟩
      case measure => simp [intOf] <;> omega
    · obtain rfl : k = n := by omega
      go_wp2_with fail
      go_ret
      exact ⟨_, o, rfl, hO, Lib.hid ⟨hP.out.1, Nat.le_trans hP.out.2 (by omega)⟩, hbel⟩

end Go.Proofs.YtaommeapngbgeaaDoor
