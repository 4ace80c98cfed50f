import Derived.Test.YteobjelenfjifaaDoorGA
namespace Go.Proofs.YteobjelenfjifaaDoor
open Go.RowKit Go.Proofs.Kit Go.Proofs.Nums

set_option maxHeartbeats 4000000 in
theorem scale_any (v : Value) (a : List Nat) (m n : Nat) (w : World) (ha : NatAt w v a) (hla : a.length ≤ 1000000) (hm : m ≤ 1000000000) (hn : n < 4294967296) :
    Calls Tryd.prog 50 #[v, .int .u64 m, .int .u64 n] w fun e w' => ∃ v' o, e = .returned v' ∧ NatAt w' v' o ∧ Hid (val o = val a * m + n ∧ o.length ≤ a.length + 1) ∧ Below w.heap.size w w' := by
  obtain ⟨p1, c1, rfl⟩ := ha.shape
  have HA := Lib.hid ha
  have HM := Lib.hid hm
  clear ha hm
  go_enter Tryd.func50, Tryd.ntmps50
  go_wp2_with (at_make; go_must (refine make_room er24 rfl rfl rfl rfl (by omega) (by omega) (by omega) ?_); intro w3 hown3 hb3)
  go_loopw [7, 8, 19] (fun ov cv i wr => ∃ k c : Nat, ∃ o : List Nat, k ≤ a.length ∧ c < 4294967296 ∧ o.length = k ∧ i = .int .i64 k ∧ cv = .int .u64 c ∧ wr.ownsRow w.heap.size 60 1 ov k (o.map limbV) ∧ Below w.heap.size w wr ∧
      Hid (Lim o ∧ val o + 4294967296 ^ k * c = val (a.take k) * m + n)) (fun _ _ i _ => a.length - (intOf i).toNat)
  case atStart => exact ⟨0, n, [], by omega, hn, rfl, rfl, rfl, hown3, hb3, Lib.hid ⟨Lim.nil, by simp [val]⟩⟩
  case round =>
    obtain ⟨k, c, o, hk, hc, hol, rfl, rfl, hown, hbel, hP⟩ := hrel
    have HOL := Lib.hid hol
    clear hol
    by_cases hlt : k < a.length
    · rcases (HA.out.keep hbel).cases with ⟨hx0, _⟩ | ⟨_, b1, o1, k1, hv1, hk1, hm1, hbb, hcell1⟩
      · rw [hx0] at hlt; simp at hlt
      simp only [Value.slice.injEq] at hv1
      obtain ⟨rfl, _, rfl⟩ := hv1
      have q1 := hcell1 k hlt
      have hxk := HA.out.2.nth k
      clear hcell1
      obtain ⟨l1, l2⟩ := scale_lt hxk HM.out hc
      obtain ⟨xm, hxm⟩ : ∃ xm : Nat, (nth a k : Int) * (m : Int) = (xm : Int) := ⟨nth a k * m, by rw [Int.natCast_mul]⟩
      have hxm' : nth a k * m = xm := by exact_mod_cast hxm
      have HST := Lib.hid (scale_step (o := o) (a := a) (m := m) (n := n) HOL.out rfl hP.out.2)
      rw [hxm'] at l1 l2 HST
      have HLIM : Hid (Lim (o ++ [(xm + c) % 4294967296])) := Lib.hid (hP.out.1.app (Lim.cons (Nat.mod_lt _ (by omega)) Lim.nil))
      clear hxm'
      go_wp2_with (at_builtin; go_must (refine append_one er24 rfl rfl hown rfl rfl rfl (by simp [Value.oneCell']) (by omega) (by omega) hbel.size ?_); intro v' w1 hown1 _ hb1 hne1)
      go_roundw
      case rel =>
        refine ⟨k + 1, (xm + c) / 4294967296, o ++ [(xm + c) % 4294967296], by omega, l2, by rw [List.length_append, HOL.out]; rfl, by go_num, by go_num, ?_, hbel.trans hb1, Lib.hid ⟨HLIM.out, HST.out⟩⟩
        rw [List.map_append]
        exact hown1
      case measure => simp [intOf] <;> omega
    · obtain rfl : k = a.length := by omega
      have hv : Hid (val o + 4294967296 ^ a.length * c = val a * m + n) := Lib.hid (by have := hP.out.2; rw [List.take_length] at this; exact this)
      by_cases hc0 : 0 < c
      · have hL : Hid (Lim (o ++ [c])) := Lib.hid (hP.out.1.app (Lim.cons hc Lim.nil))
        have hV : Hid (val (o ++ [c]) = val a * m + n) := Lib.hid (by rw [val_snoc, HOL.out]; exact hv.out)
        go_wp2_with (at_builtin; go_must (refine append_one er24 rfl rfl hown rfl rfl rfl (by simp [Value.oneCell']) (by omega) (by omega) hbel.size ?_); intro v' w1 hown1 _ hb1 hne1)
        go_ret
        refine ⟨v', rfl, o ++ [c], ⟨RowAt.owned (n := a.length + 1) (e := 60) (base := w.heap.size) ?_, hL.out⟩, Lib.hid ⟨hV.out, by rw [List.length_append, HOL.out]; simp⟩, hbel.trans hb1⟩
        rw [List.map_append]
        exact hown1
      · obtain rfl : c = 0 := by omega
        go_wp2_with fail
        go_ret
        exact ⟨_, o, rfl, ⟨RowAt.owned hown, hP.out.1⟩, Lib.hid ⟨by have := hv.out; rw [Nat.mul_zero, Nat.add_zero] at this; exact this, by rw [HOL.out]; omega⟩, hbel⟩

end Go.Proofs.YteobjelenfjifaaDoor
