import Derived.Test.YteobjelenfjifaaDoorNx
import Derived.Test.YteobjelenfjifaaDoorK4
namespace Go.Proofs.YteobjelenfjifaaDoor
open Go.RowKit Go.Proofs.Kit Go.Proofs.Nums

set_option maxHeartbeats 1000000 in
theorem trim_at (v : Value) (l : List Nat) (w : World) (h : NatAt w v l) :
    Calls Tryd.prog 40 #[v] w fun e w' => ∃ v', e = .returned v' ∧ NatAt w v' (limbs (val l)) ∧ w = w' ∧ (v'.ownBlock = none ∨ v'.ownBlock = v.ownBlock) := by
  rcases h.cases with ⟨rfl, p, cap, rfl, _, _⟩ | ⟨h1, b, off, cap, rfl, hc, hm, hb, hcell⟩
  · clear h
    go_enter Tryd.func40, Tryd.ntmps40
    go_wp2_with fail
    refine wp_loop_rounds 1 ?_
    rw [rounds_succ]
    go_wp2_with fail
    go_ret
    exact ⟨_, rfl, NatAt.nil w, rfl, .inl rfl⟩
  · have H := Lib.hid h
    have HC := Lib.hid hcell
    clear h hcell
    go_enter Tryd.func40, Tryd.ntmps40
    go_wp2_with fail
    go_loop [3] (fun i => ∃ k : Nat, k ≤ l.length ∧ i = .int .i64 k ∧ Hid (val (l.drop k) = 0)) (fun i => (intOf i).toNat)
    case atStart => exact ⟨l.length, Nat.le_refl _, rfl, Lib.hid (by rw [List.drop_length]; rfl)⟩
    case round =>
      obtain ⟨k, hk, rfl, hP⟩ := hrel
      by_cases h0 : 0 < k
      · obtain ⟨m, rfl⟩ : ∃ m, k = m + 1 := ⟨k - 1, by omega⟩
        have hcm := HC.out m (by omega)
        cases hz : (((nth l m : Nat) : Int) == 0)
        · have hN : Hid (limbs (val l) = l.take (m + 1)) := Lib.hid (limbs_trim l H.out.2 (m+1) hP.out (norm_take hk (by simpa using hz)))
          go_wp2_with fail
          go_ret
          refine ⟨_, rfl, ⟨?_, limbs_lim _⟩, rfl, .inr rfl⟩
          rw [hN.out, List.map_take]
          exact RowAt.take H.out.1 (m+1) (by rw [List.length_map]; exact hk)
        · have HZ : Hid (val (l.drop m) = 0) := Lib.hid (val_drop_step (by omega) (by simpa using hz) hP.out)
          go_wp2_with fail
          go_round
          case rel => exact ⟨m, by omega, by go_num, HZ⟩
          case measure => simp [intOf]
      · obtain rfl : k = 0 := by omega
        have hN : Hid (limbs (val l) = []) := Lib.hid (by have := hP.out; rw [List.drop_zero] at this; rw [this]; rfl)
        clear h0
        go_wp2_with fail
        go_ret
        exact ⟨_, rfl, by rw [hN.out]; exact NatAt.nil w, rfl, .inl rfl⟩

end Go.Proofs.YteobjelenfjifaaDoor
