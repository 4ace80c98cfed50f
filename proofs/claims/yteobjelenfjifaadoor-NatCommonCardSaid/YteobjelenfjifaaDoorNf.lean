import Derived.Test.YteobjelenfjifaaDoorNe
namespace Go.Proofs.YteobjelenfjifaaDoor
open Go.RowKit Go.Proofs.Kit Go.Proofs.Nums

theorem ret_b {a b : Bool} (h : a = b) : Ending.returned (.bool a) = .returned (.bool b) := by rw [h]

set_option maxHeartbeats 1000000 in
theorem at_any (v : Value) (l : List Bool) (i : Nat) (w : World) (h : BitAt w v l) :
    Calls Tryd.prog 44 #[v, .int .i64 i] w fun e w' => e = .returned (.bool (bnth l i)) ∧ w = w' := by
  rcases h.cases with ⟨rfl, p, cap, rfl, _, _⟩ | ⟨h1, b, off, cap, rfl, hc, hm, hb, hcell⟩
  · clear h
    go_enter Tryd.func44, Tryd.ntmps44
    go_wp2_with fail
    go_ret
    exact ⟨rfl, rfl⟩
  · clear h
    by_cases hi : i < l.length
    · have hci := hcell i hi
      clear hcell
      go_enter Tryd.func44, Tryd.ntmps44
      go_wp2_with fail
      go_ret
      exact ⟨rfl, rfl⟩
    · have h0 : Hid (bnth l i = false) := Lib.hid (bnth_ge (by omega))
      clear hcell
      go_enter Tryd.func44, Tryd.ntmps44
      go_wp2_with fail
      go_ret
      exact ⟨by rw [h0.out]; rfl, rfl⟩

set_option maxHeartbeats 4000000 in
theorem radd_any (va vb : Value) (a b : List Bool) (w : World) (ha : BitAt w va a) (hb : BitAt w vb b) (hla : a.length ≤ 100000) (hlb : b.length ≤ 100000) :
    Calls Tryd.prog 26 #[va, vb] w fun e w' => ∃ v', e = .returned v' ∧ BitAt w' v' (bitsN (bval a + bval b)) ∧ Below w.heap.size w w' := by
  obtain ⟨p1, c1, rfl⟩ := ha.shape
  obtain ⟨p2, c2, rfl⟩ := hb.shape
  obtain ⟨M, hM1, hM2, hM3⟩ : ∃ M, a.length ≤ M ∧ b.length ≤ M ∧ (M ≤ a.length ∨ M ≤ b.length) := ⟨max a.length b.length, by omega, by omega, by omega⟩
  have HA := Lib.hid ha
  have HB := Lib.hid hb
  clear ha hb
  by_cases hxy : a.length < b.length
  all_goals
    go_enter Tryd.func26, Tryd.ntmps26
    go_wp2_with fail
    go_loopw [5, 6, 7] (fun v c i wr => ∃ k : Nat, ∃ cb : Bool, ∃ o : List Bool, k ≤ M + 1 ∧ o.length = k ∧ i = .int .i64 k ∧ c = .bool cb ∧ wr.ownsRow w.heap.size 4 1 v k (o.map Value.bool) ∧ Below w.heap.size w wr ∧
        Hid (bval o + 2 ^ k * bN cb = bval (a.take k) + bval (b.take k))) (fun _ _ i _ => M + 1 - (intOf i).toNat)
    case atStart => exact ⟨0, false, [], by omega, rfl, rfl, rfl, World.ownsRow_nil _ _ _ _, Below.refl _ _, Lib.hid (by simp [bval, bN])⟩
    case round =>
      obtain ⟨k, cb, o, hk, hol, rfl, rfl, hown, hbel, hP⟩ := hrel
      have HOL := Lib.hid hol
      clear hol
      by_cases hlt : k ≤ M
      · have LA := Lib.hid (at_any _ a k wr (HA.out.keep hbel))
        have LB := Lib.hid (at_any _ b k wr (HB.out.keep hbel))
        have hst := badd_step (a := a) (b := b) HOL.out hP.out
        have HST := Lib.hid hst
        clear hst
        cases hx : bnth a k <;> cases hy : bnth b k <;> cases cb
        all_goals
          go_wp2_with (first
            | (go_at_call 44; ((with_reducible refine LA.out.mono ?_); rintro e w4 ⟨rfl, rfl⟩))
            | (go_at_call 44; ((with_reducible refine LB.out.mono ?_); rintro e w5 ⟨rfl, rfl⟩))
            | (at_builtin; go_must (refine append_one er30 rfl rfl hown rfl rfl rfl (by simp [Value.oneCell']) (by omega) (by omega) hbel.size ?_); intro v' w1 hown1 _ hb1 hne1))
          go_roundw
          case rel =>
            refine ⟨k + 1, _, o ++ [_], by omega, by rw [List.length_append, HOL.out]; rfl, by go_num, rfl, by rw [List.map_append]; exact hown1, hbel.trans hb1, Lib.hid ?_⟩
            have := HST.out
            rw [hx, hy] at this
            exact this
          case measure => simp [intOf]; omega
      · obtain rfl : k = M + 1 := by omega
        have hval : Hid (bval o = bval a + bval b) := Lib.hid (by
          have h1 := hP.out
          rw [bval_take_all (l := a) (by omega), bval_take_all (l := b) (by omega)] at h1
          have h2 := bval_lt a
          have h3 := bval_lt b
          have h4 : 2 ^ a.length ≤ 2 ^ M := Nat.pow_le_pow_right (by omega) hM1
          have h5 : 2 ^ b.length ≤ 2 ^ M := Nat.pow_le_pow_right (by omega) hM2
          have h6 : 2 ^ (M + 1) = 2 * 2 ^ M := by rw [Nat.pow_succ]; omega
          cases cb
          · simp [bN] at h1; exact h1
          · simp [bN] at h1; omega)
        have HBT : Hid (BitAt wr u5 o) := Lib.hid (RowAt.owned hown)
        have hol2 : o.length ≤ 1000000 := by rw [HOL.out]; omega
        have HL := Lib.hid hol2
        clear hown hol2
        go_wp2_with (go_at_call 41; refine (rtrim_any _ _ _ HBT.out HL.out).mono ?_; rw [hval.out]; rintro e w4 ⟨v4, rfl, hv4, hb4⟩)
        go_ret
        exact ⟨_, rfl, hv4, bel2' hbel hb4⟩

set_option maxHeartbeats 4000000 in
theorem rsub_any (va vb : Value) (a b : List Bool) (w : World) (ha : BitAt w va a) (hb : BitAt w vb b) (hla : a.length ≤ 100000) (hge : bval b ≤ bval a) (hba : bval b = bval (b.take a.length)) :
    Calls Tryd.prog 24 #[va, vb] w fun e w' => ∃ v', e = .returned v' ∧ BitAt w' v' (bitsN (bval a - bval b)) ∧ Below w.heap.size w w' := by
  obtain ⟨p1, c1, rfl⟩ := ha.shape
  obtain ⟨p2, c2, rfl⟩ := hb.shape
  have HA := Lib.hid ha
  have HB := Lib.hid hb
  have HGE := Lib.hid hge
  have HBA := Lib.hid hba
  clear ha hb hge hba
  go_enter Tryd.func24, Tryd.ntmps24
  go_wp2_with fail
  go_loopw [5, 6, 7] (fun v c i wr => ∃ k : Nat, ∃ cb : Bool, ∃ o : List Bool, k ≤ a.length ∧ o.length = k ∧ i = .int .i64 k ∧ c = .bool cb ∧ wr.ownsRow w.heap.size 4 1 v k (o.map Value.bool) ∧ Below w.heap.size w wr ∧
      Hid (bval o + bval (b.take k) = bval (a.take k) + 2 ^ k * bN cb)) (fun _ _ i _ => a.length - (intOf i).toNat)
  case atStart => exact ⟨0, false, [], by omega, rfl, rfl, rfl, World.ownsRow_nil _ _ _ _, Below.refl _ _, Lib.hid (by simp [bval, bN])⟩
  case round =>
    obtain ⟨k, cb, o, hk, hol, rfl, rfl, hown, hbel, hP⟩ := hrel
    have HOL := Lib.hid hol
    clear hol
    by_cases hlt : k < a.length
    · have LA := Lib.hid (at_any _ a k wr (HA.out.keep hbel))
      have LB := Lib.hid (at_any _ b k wr (HB.out.keep hbel))
      have hst := bsub_step (a := a) (b := b) HOL.out hP.out
      have HST := Lib.hid hst
      clear hst
      cases hx : bnth a k <;> cases hy : bnth b k <;> cases cb
      all_goals
        go_wp2_with (first
          | (go_at_call 44; ((with_reducible refine LA.out.mono ?_); rintro e w4 ⟨rfl, rfl⟩))
          | (go_at_call 44; ((with_reducible refine LB.out.mono ?_); rintro e w5 ⟨rfl, rfl⟩))
          | (at_builtin; go_must (refine append_one er30 rfl rfl hown rfl rfl rfl (by simp [Value.oneCell']) (by omega) (by omega) hbel.size ?_); intro v' w1 hown1 _ hb1 hne1))
        go_roundw
        case rel =>
          refine ⟨k + 1, _, o ++ [_], by omega, by rw [List.length_append, HOL.out]; rfl, by go_num, rfl, by rw [List.map_append]; exact hown1, hbel.trans hb1, Lib.hid ?_⟩
          have := HST.out
          rw [hx, hy] at this
          exact this
        case measure => simp [intOf]; omega
    · obtain rfl : k = a.length := by omega
      have hval : Hid (bval o = bval a - bval b) := Lib.hid (by
        have h1 := hP.out
        have h2 := HGE.out
        rw [bval_take_all (l := a) (by omega), ← HBA.out] at h1
        have h3 := bval_lt o
        rw [HOL.out] at h3
        cases cb
        · simp [bN] at h1; omega
        · simp [bN] at h1; omega)
      have HBT : Hid (BitAt wr u5 o) := Lib.hid (RowAt.owned hown)
      have hol2 : o.length ≤ 1000000 := by rw [HOL.out]; omega
      have HL := Lib.hid hol2
      clear hown hol2
      go_wp2_with (go_at_call 41; refine (rtrim_any _ _ _ HBT.out HL.out).mono ?_; rw [hval.out]; rintro e w4 ⟨v4, rfl, hv4, hb4⟩)
      go_ret
      exact ⟨_, rfl, hv4, bel2' hbel hb4⟩

end Go.Proofs.YteobjelenfjifaaDoor
