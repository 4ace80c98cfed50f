import Derived.Test.YteobjelenfjifaaDoorNs
namespace Go.Proofs.YteobjelenfjifaaDoor
open Go.RowKit Go.Proofs.Kit Go.Proofs.Nums

set_option maxHeartbeats 4000000 in
theorem from_any (v : Value) (a : List Nat) (w : World) (ha : NatAt w v a) (hla : a.length ≤ 1000) :
    Calls Tryd.prog 17 #[v] w fun e w' => ∃ v', e = .returned v' ∧ BitAt w' v' (bitsN (val a)) ∧ Below w.heap.size w w' := by
  obtain ⟨p1, c1, rfl⟩ := ha.shape
  have HA := Lib.hid ha
  clear ha
  go_enter Tryd.func17, Tryd.ntmps17
  go_wp2_with fail
  go_loopw [3, 4] (fun v i wr => ∃ k : Nat, ∃ o : List Bool, k ≤ a.length ∧ o.length = 32 * k ∧ i = .int .i64 k ∧ wr.ownsRow w.heap.size 4 1 v (32 * k) (o.map Value.bool) ∧ Below w.heap.size w wr ∧
      Hid (bval o = val (a.take k) + 2 ^ (32 * k) * (nth a k % 2 ^ 0))) (fun _ i _ => a.length - (intOf i).toNat)
  case atStart => exact ⟨0, [], by omega, rfl, rfl, World.ownsRow_nil _ _ _ _, Below.refl _ _, Lib.hid (by simp [bval, val, Nat.mod_one])⟩
  case round =>
    obtain ⟨k, o, hk, hol, rfl, hown, hbel, hP⟩ := hrel
    have HOL := Lib.hid hol
    clear hol
    by_cases hlt : k < a.length
    · have hxk0 := HA.out.2.nth k
      go_wp2_with fail
      go_loopw [3, 5] (fun v i wr => ∃ q : Nat, ∃ o : List Bool, q ≤ 32 ∧ Hid (o.length = 32 * k + q) ∧ i = .int .u64 q ∧ wr.ownsRow w.heap.size 4 1 v (32 * k + q) (o.map Value.bool) ∧ Below w.heap.size w wr ∧
          Hid (bval o = val (a.take k) + 2 ^ (32 * k) * (nth a k % 2 ^ q))) (fun _ i _ => 32 - (intOf i).toNat)
      case atStart => exact ⟨0, o, by omega, Lib.hid HOL.out, rfl, hown, hbel, hP⟩
      case round =>
        obtain ⟨q, o', hq, hol', rfl, hown', hbel', hP'⟩ := hrel
        by_cases hlt2 : q < 32
        · rcases (HA.out.keep hbel').cases with ⟨hx0, _⟩ | ⟨_, b1, o1, k1, hv1, hk1, hm1, hb1, hcell1⟩
          · rw [hx0] at hlt; simp at hlt
          simp only [Value.slice.injEq] at hv1
          obtain ⟨rfl, _, rfl⟩ := hv1
          have q1 := hcell1 k hlt
          clear hcell1
          go_wp2_with (at_builtin; go_must (refine append_one er30 rfl rfl hown' rfl rfl rfl (by simp [Value.oneCell']) (by omega) (by omega) hbel'.size ?_); intro v' w1 hown1 _ hb1 hne1)
          go_roundw
          case rel =>
            refine ⟨q + 1, o' ++ [_], by omega, Lib.hid (by rw [List.length_append, hol'.out]; rfl), by go_num, by rw [List.map_append]; exact hown1, hbel'.trans hb1, Lib.hid ?_⟩
            refine from_step hol'.out ?_ hP'.out
            exact bit_of _ _ hxk0
          case measure => simp [intOf] <;> omega
        · obtain rfl : q = 32 := by omega
          have hE := Lib.hid (from_end hxk0 hP'.out)
          go_wp2_with fail
          go_roundw
          case rel =>
            exact ⟨k + 1, o', by omega, by rw [hol'.out]; omega, by go_num, hown', hbel', hE⟩
          case measure => simp [intOf] <;> omega
    · obtain rfl : k = a.length := by omega
      have hval : Hid (bval o = val a) := Lib.hid (by rw [hP.out, List.take_length, nth_ge (Nat.le_refl _)]; simp)
      have HBT : Hid (BitAt wr u3 o) := Lib.hid (RowAt.owned hown)
      have hol2 : o.length ≤ 1000000 := by rw [HOL.out]; omega
      have HL := Lib.hid hol2
      clear hown hol2
      go_wp2_with (go_at_call 41; refine (rtrim_any _ _ _ HBT.out HL.out).mono ?_; rw [hval.out]; rintro e w4 ⟨v4, rfl, hv4, hb4⟩)
      go_ret
      exact ⟨_, rfl, hv4, bel2' hbel hb4⟩

end Go.Proofs.YteobjelenfjifaaDoor
