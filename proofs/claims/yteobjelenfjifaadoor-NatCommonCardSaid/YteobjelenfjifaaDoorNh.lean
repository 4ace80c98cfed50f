import Derived.Test.YteobjelenfjifaaDoorNf
import Derived.Test.YteobjelenfjifaaDoorNr
namespace Go.Proofs.YteobjelenfjifaaDoor
open Go.RowKit Go.Proofs.Kit Go.Proofs.Nums

set_option maxHeartbeats 4000000 in
theorem rcmp_any (va vb : Value) (a b : List Bool) (w : World) (ha : BitAt w va a) (hb : BitAt w vb b) (hla : a.length ≤ 100000) (hlb : b.length ≤ 100000) :
    Calls Tryd.prog 22 #[va, vb] w fun e w' => e = .returned (.int .i64 (cmpN (bval a) (bval b))) ∧ Below w.heap.size w w' := by
  obtain ⟨p1, c1, rfl⟩ := ha.shape
  obtain ⟨p2, c2, rfl⟩ := hb.shape
  obtain ⟨M, hM1, hM2, hM3⟩ : ∃ M, a.length ≤ M ∧ b.length ≤ M ∧ (M ≤ a.length ∨ M ≤ b.length) := ⟨max a.length b.length, by omega, by omega, by omega⟩
  have HA := Lib.hid ha
  have HB := Lib.hid hb
  clear ha hb
  have h0 : Hid (∀ j, M ≤ j → bnth a j = bnth b j) := Lib.hid (fun j hj => by rw [bnth_ge (by omega), bnth_ge (by omega)])
  by_cases hxy : a.length < b.length
  all_goals
    go_enter Tryd.func22, Tryd.ntmps22
    go_wp2_with fail
    go_loopw [5] (fun i wr => ∃ k : Nat, k ≤ M ∧ i = .int .i64 ((k : Int) - 1) ∧ (∃ n, wr = w.drewN n) ∧ Hid (∀ j, k ≤ j → bnth a j = bnth b j)) (fun i _ => (intOf i + 1).toNat)
    case atStart => exact ⟨M, by omega, by go_num, ⟨0, rfl⟩, h0⟩
    case round =>
      obtain ⟨k, hk, rfl, ⟨n, rfl⟩, hP⟩ := hrel
      by_cases h0 : 0 < k
      · obtain ⟨m, rfl⟩ : ∃ m, k = m + 1 := ⟨k - 1, by omega⟩
        have LA := Lib.hid (at_any _ a m (w.drewN n) (HA.out.keep (below_drewN (Below.refl _ _) n)))
        have LB := Lib.hid (at_any _ b m (w.drewN n) (HB.out.keep (below_drewN (Below.refl _ _) n)))
        rw [show ((m + 1 : Nat) : Int) - 1 = (m : Int) by omega]
        cases hx : bnth a m <;> cases hy : bnth b m
        all_goals
          go_wp2_with (first
            | (go_at_call 44; ((with_reducible refine LA.out.mono ?_); rintro e w4 ⟨rfl, rfl⟩))
            | (go_at_call 44; ((with_reducible refine LB.out.mono ?_); rintro e w5 ⟨rfl, rfl⟩)))
        · go_roundw
          case rel =>
            refine ⟨m, by omega, by go_num, ⟨n, rfl⟩, Lib.hid fun j hj => ?_⟩
            by_cases hjm : j = m
            · subst hjm; rw [hx, hy]
            · exact hP.out j (by omega)
          case measure => simp [intOf] <;> omega
        · have hR : Hid (cmpN (bval a) (bval b) = -1) := Lib.hid (cmpN_lt (bcmp_lt (fun j hj => hP.out j (by omega)) hx hy))
          go_ret
          exact ⟨ret_i (by rw [hR.out]), below_drewN (Below.refl _ _) _⟩
        · have hR : Hid (cmpN (bval a) (bval b) = 1) := Lib.hid (cmpN_gt (bcmp_lt (fun j hj => (hP.out j (by omega)).symm) hy hx))
          go_ret
          exact ⟨ret_i (by rw [hR.out]), below_drewN (Below.refl _ _) _⟩
        · go_roundw
          case rel =>
            refine ⟨m, by omega, by go_num, ⟨n, rfl⟩, Lib.hid fun j hj => ?_⟩
            by_cases hjm : j = m
            · subst hjm; rw [hx, hy]
            · exact hP.out j (by omega)
          case measure => simp [intOf] <;> omega
      · obtain rfl : k = 0 := by omega
        have hR : Hid (cmpN (bval a) (bval b) = 0) := Lib.hid (cmpN_eq (bcmp_eq fun j => hP.out j (by omega)))
        go_wp2_with fail
        go_ret
        exact ⟨ret_i (by rw [hR.out]), below_drewN (Below.refl _ _) _⟩

end Go.Proofs.YteobjelenfjifaaDoor
