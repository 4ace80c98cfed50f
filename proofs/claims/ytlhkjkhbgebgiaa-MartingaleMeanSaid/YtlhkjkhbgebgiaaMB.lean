import Derived.Test.YtlhkjkhbgebgiaaMA
namespace Go.Proofs.Ytlhkjkhbgebgiaa
open Go.RowKit Go.Proofs.Kit Go.Proofs.Nums

/-- v reads as the bitsN l. -/
def BitAt (w : World) (v : Value) (l : List Bool) : Prop := RowAt w v (l.map Value.bool)

theorem BitAt.keep {w w' : World} {v : Value} {l : List Bool} (h : BitAt w v l) (hb : Below w.heap.size w w') : BitAt w' v l := RowAt.keep h hb
theorem BitAt.on {w w' : World} {o : Obj} {v : Value} {l : List Bool} (h : BitAt w v l) (hb : Below (w.alloc o).heap.size (w.alloc o) w') : BitAt w' v l := RowAt.on h hb
theorem BitAt.nil (w : World) : BitAt w (.slice none 0 0) [] := RowAt.nil w
theorem BitAt.shape {w : World} {v : Value} {l : List Bool} (h : BitAt w v l) : ∃ p c, v = .slice p l.length c := by
  obtain ⟨p, c, hv, _⟩ := h
  rw [List.length_map] at hv
  exact ⟨p, c, hv⟩
theorem BitAt.cases {w : World} {v : Value} {l : List Bool} (h : BitAt w v l) :
    (l = [] ∧ ∃ p cap, v = .slice p 0 cap ∧ cap ≤ 9223372036854775807 ∧ (p = none → cap = 0)) ∨
    (0 < l.length ∧ ∃ b off cap, v = .slice (some ⟨b, off, none⟩) l.length cap ∧ l.length ≤ cap ∧ cap ≤ 9223372036854775807 ∧ b < w.heap.size ∧ ∀ i, i < l.length → w.cell? ⟨b, off + i, none⟩ = some (.bool (bnth l i))) := by
  rcases RowAt.cases h with ⟨h1, h2⟩ | ⟨h1, b, off, cap, hv, hc, hm, hb, hcell⟩
  · left; exact ⟨by simpa using h1, h2⟩
  · right
    rw [List.length_map] at h1 hv hc
    refine ⟨h1, b, off, cap, hv, hc, hm, hb, fun i hi => ?_⟩
    refine hcell i _ ?_
    rw [List.getElem?_map, List.getElem?_eq_getElem hi, bnth_lt hi]
    rfl

theorem er65 : ElemRow Try.prog 65 4 (.bool false) 1 1 := ⟨Try.underlying65, by kernel_rfl, rfl, by decide⟩

theorem bool_one (l : List Bool) : ∀ u ∈ l.map Value.bool, u.oneCell' = true := by
  intro u hu
  obtain ⟨_, _, rfl⟩ := List.mem_map.1 hu
  rfl

theorem bit_cells {w : World} {b off : Nat} {l : List Bool} (hcell : ∀ i, i < l.length → w.cell? ⟨b, off + i, none⟩ = some (.bool (bnth l i))) (k : Nat) :
    ∀ j u, ((l.take k).map Value.bool)[j]? = some u → w.cell? ((⟨b, off, none⟩ : Addr).add j) = some u := by
  intro j u hj
  rw [Addr.add_lit]
  rw [List.getElem?_map] at hj
  cases hlj : (l.take k)[j]? with
  | none => rw [hlj] at hj; simp at hj
  | some x =>
    rw [List.getElem?_take] at hlj
    split at hlj
    · have hjl := (List.getElem?_eq_some_iff.1 hlj).1
      rw [hcell j hjl, bnth_lt hjl, (List.getElem?_eq_some_iff.1 hlj).2]
      rw [List.getElem?_take, if_pos (by assumption), hlj] at hj
      simpa using hj
    · simp at hlj

set_option maxHeartbeats 1000000 in
theorem rtrim_any (v : Value) (l : List Bool) (w : World) (h : BitAt w v l) (hl : l.length ≤ 1000000) :
    Calls Try.prog 53 #[v] w fun e w' => ∃ v', e = .returned v' ∧ BitAt w' v' (bitsN (bval l)) ∧ Below w.heap.size w w' := by
  rcases h.cases with ⟨rfl, p, cap, rfl, _, _⟩ | ⟨h1, b, off, cap, rfl, hc, hm, hb, hcell⟩
  · clear h hl
    cases p with
    | none =>
      go_enter Try.func53, Try.ntmps53
      go_wp2_with fail
      refine wp_loop_rounds 1 ?_
      rw [rounds_succ]
      go_wp2_with (at_builtin; refine append_nil er65 (base := w.heap.size) (n := 0) (xs := []) (by rfl) (by rfl) (World.ownsRow_nil _ _ _ _) (by rfl) (by rfl) ?_)
      go_ret
      exact ⟨_, rfl, BitAt.nil w, Below.refl _ _⟩
    | some q =>
      go_enter Try.func53, Try.ntmps53
      go_wp2_with fail
      refine wp_loop_rounds 1 ?_
      rw [rounds_succ]
      go_wp2_with (at_builtin; (refine append_row er65 (base := w.heap.size) (n := 0) (xs := []) (news := []) (by rfl) (by rfl) (World.ownsRow_nil _ _ _ _) (by rfl) (by rfl) (by rfl) (fun j u h => by simp at h) (fun u h => by simp at h) (by omega) (by omega) (Nat.le_refl _) ?_); intro v' w1 hown1 _ hb1)
      go_ret
      exact ⟨_, rfl, RowAt.owned hown1, hb1⟩
  · have H := Lib.hid h
    have HC := Lib.hid hcell
    clear h hcell
    go_enter Try.func53, Try.ntmps53
    go_wp2_with fail
    go_loop [3] (fun i => ∃ k : Nat, k ≤ l.length ∧ i = .int .i64 k ∧ Hid (bval (l.drop k) = 0)) (fun i => (intOf i).toNat)
    case atStart => exact ⟨l.length, Nat.le_refl _, rfl, Lib.hid (by rw [List.drop_length]; rfl)⟩
    case round =>
      obtain ⟨k, hk, rfl, hP⟩ := hrel
      by_cases h0 : 0 < k
      · obtain ⟨m, rfl⟩ : ∃ m, k = m + 1 := ⟨k - 1, by omega⟩
        have hcm := HC.out m (by omega)
        cases hz : bnth l m
        · have HZ : Hid (bval (l.drop m) = 0) := Lib.hid (bval_drop_step (by omega) hz hP.out)
          go_wp2_with fail
          go_round
          case rel => exact ⟨m, by omega, by go_num, HZ⟩
          case measure => simp [intOf]
        · have hN : Hid (bitsN (bval l) = l.take (m + 1)) := Lib.hid (bits_trim l (m+1) hP.out (bnorm_take hk hz))
          go_wp2_with (at_builtin; (refine append_row er65 (base := w.heap.size) (n := 0) (xs := []) (news := (l.take (m + 1)).map Value.bool) (by rfl) (by rfl) (World.ownsRow_nil _ _ _ _) (by rfl) (by rfl) (by rw [List.length_map, List.length_take]; omega) (bit_cells HC.out (m + 1)) (bool_one _) (by omega) (by omega) (Nat.le_refl _) ?_); intro v' w1 hown1 _ hb1)
          go_ret
          exact ⟨_, rfl, by rw [hN.out]; exact RowAt.owned hown1, hb1⟩
      · obtain rfl : k = 0 := by omega
        have hN : Hid (bitsN (bval l) = []) := Lib.hid (by have := hP.out; rw [List.drop_zero] at this; rw [this]; rfl)
        clear h0
        go_wp2_with (at_builtin; (refine append_row er65 (base := w.heap.size) (n := 0) (xs := []) (news := []) (by rfl) (by rfl) (World.ownsRow_nil _ _ _ _) (by rfl) (by rfl) (by rfl) (fun j u h => by simp at h) (fun u h => by simp at h) (by omega) (by omega) (Nat.le_refl _) ?_); intro v' w1 hown1 _ hb1)
        go_ret
        exact ⟨_, rfl, by rw [hN.out]; exact RowAt.owned hown1, hb1⟩

end Go.Proofs.Ytlhkjkhbgebgiaa

namespace Go.Proofs.Ytlhkjkhbgebgiaa
open Go.RowKit Go.Proofs.Kit Go.Proofs.Nums

theorem ret_b {a b : Bool} (h : a = b) : Ending.returned (.bool a) = .returned (.bool b) := by rw [h]

set_option maxHeartbeats 1000000 in
theorem at_any (v : Value) (l : List Bool) (i : Nat) (w : World) (h : BitAt w v l) :
    Calls Try.prog 54 #[v, .int .i64 i] w fun e w' => e = .returned (.bool (bnth l i)) ∧ w = w' := by
  rcases h.cases with ⟨rfl, p, cap, rfl, _, _⟩ | ⟨h1, b, off, cap, rfl, hc, hm, hb, hcell⟩
  · clear h
    go_enter Try.func54, Try.ntmps54
    go_wp2_with fail
    go_ret
    exact ⟨rfl, rfl⟩
  · clear h
    by_cases hi : i < l.length
    · have hci := hcell i hi
      clear hcell
      go_enter Try.func54, Try.ntmps54
      go_wp2_with fail
      go_ret
      exact ⟨rfl, rfl⟩
    · have h0 : Hid (bnth l i = false) := Lib.hid (bnth_ge (by omega))
      clear hcell
      go_enter Try.func54, Try.ntmps54
      go_wp2_with fail
      go_ret
      exact ⟨by rw [h0.out]; rfl, rfl⟩

set_option maxHeartbeats 4000000 in
theorem radd_any (va vb : Value) (a b : List Bool) (w : World) (ha : BitAt w va a) (hb : BitAt w vb b) (hla : a.length ≤ 100000) (hlb : b.length ≤ 100000) :
    Calls Try.prog 51 #[va, vb] w fun e w' => ∃ v', e = .returned v' ∧ BitAt w' v' (bitsN (bval a + bval b)) ∧ Below w.heap.size w w' := by
  obtain ⟨p1, c1, rfl⟩ := ha.shape
  obtain ⟨p2, c2, rfl⟩ := hb.shape
  obtain ⟨M, hM1, hM2, hM3⟩ : ∃ M, a.length ≤ M ∧ b.length ≤ M ∧ (M ≤ a.length ∨ M ≤ b.length) := ⟨max a.length b.length, by omega, by omega, by omega⟩
  have HA := Lib.hid ha
  have HB := Lib.hid hb
  clear ha hb
  by_cases hxy : a.length < b.length
  all_goals
    go_enter Try.func51, Try.ntmps51
    go_wp2_with fail
    go_loopw [5, 6, 7] (fun v c i wr => ∃ k : Nat, ∃ cb : Bool, ∃ o : List Bool, k ≤ M + 1 ∧ o.length = k ∧ i = .int .i64 k ∧ c = .bool cb ∧ wr.ownsRow w.heap.size 4 1 v k (o.map Value.bool) ∧ Below w.heap.size w wr ∧
        Hid (bval o + 2 ^ k * bN cb = bval (a.take k) + bval (b.take k))) (fun _ _ i _ => M + 1 - (intOf i).toNat)
    case atStart => exact ⟨0, false, [], by omega, rfl, rfl, rfl, World.ownsRow_nil _ _ _ _, Below.refl _ _, Lib.hid (by simp [bval, bN])⟩
    case round =>
      obtain ⟨k, cb, o, hk, hol, rfl, rfl, hown, hbel, hP⟩ := hrel
      have HOL := Lib.hid hol
      clear hol
      by_cases hlt : k ≤ M
      · have LA := Lib.hid (at_any _ a k wr (HA.out.keep hbel))
        have LB := Lib.hid (at_any _ b k wr (HB.out.keep hbel))
        have hst := badd_step (a := a) (b := b) HOL.out hP.out
        have HST := Lib.hid hst
        clear hst
        cases hx : bnth a k <;> cases hy : bnth b k <;> cases cb
        all_goals
          go_wp2_with (first
            | (go_at_call 54; ((with_reducible refine LA.out.mono ?_); rintro e w4 ⟨rfl, rfl⟩))
            | (go_at_call 54; ((with_reducible refine LB.out.mono ?_); rintro e w5 ⟨rfl, rfl⟩))
            | (at_builtin; go_must (refine append_one er65 rfl rfl hown rfl rfl rfl (by simp [Value.oneCell']) (by omega) (by omega) hbel.size ?_); intro v' w1 hown1 _ hb1 hne1))
          go_roundw
          case rel =>
            refine ⟨k + 1, _, o ++ [_], by omega, by rw [List.length_append, HOL.out]; rfl, by go_num, rfl, by rw [List.map_append]; exact hown1, hbel.trans hb1, Lib.hid ?_⟩
            have := HST.out
            rw [hx, hy] at this
            exact this
          case measure => simp [intOf]; omega
      · obtain rfl : k = M + 1 := by omega
        have hval : Hid (bval o = bval a + bval b) := Lib.hid (by
          have h1 := hP.out
          rw [bval_take_all (l := a) (by omega), bval_take_all (l := b) (by omega)] at h1
          have h2 := bval_lt a
          have h3 := bval_lt b
          have h4 : 2 ^ a.length ≤ 2 ^ M := Nat.pow_le_pow_right (by omega) hM1
          have h5 : 2 ^ b.length ≤ 2 ^ M := Nat.pow_le_pow_right (by omega) hM2
          have h6 : 2 ^ (M + 1) = 2 * 2 ^ M := by rw [Nat.pow_succ]; omega
          cases cb
          · simp [bN] at h1; exact h1
          · simp [bN] at h1; omega)
        have HBT : Hid (BitAt wr u5 o) := Lib.hid (RowAt.owned hown)
        have hol2 : o.length ≤ 1000000 := by rw [HOL.out]; omega
        have HL := Lib.hid hol2
        clear hown hol2
        go_wp2_with (go_at_call 53; refine (rtrim_any _ _ _ HBT.out HL.out).mono ?_; rw [hval.out]; rintro e w4 ⟨v4, rfl, hv4, hb4⟩)
        go_ret
        exact ⟨_, rfl, hv4, bel2' hbel hb4⟩

set_option maxHeartbeats 4000000 in
theorem rsub_any (va vb : Value) (a b : List Bool) (w : World) (ha : BitAt w va a) (hb : BitAt w vb b) (hla : a.length ≤ 100000) (hge : bval b ≤ bval a) (hba : bval b = bval (b.take a.length)) :
    Calls Try.prog 76 #[va, vb] w fun e w' => ∃ v', e = .returned v' ∧ BitAt w' v' (bitsN (bval a - bval b)) ∧ Below w.heap.size w w' := by
  obtain ⟨p1, c1, rfl⟩ := ha.shape
  obtain ⟨p2, c2, rfl⟩ := hb.shape
  have HA := Lib.hid ha
  have HB := Lib.hid hb
  have HGE := Lib.hid hge
  have HBA := Lib.hid hba
  clear ha hb hge hba
  go_enter Try.func76, Try.ntmps76
  go_wp2_with fail
  go_loopw [5, 6, 7] (fun v c i wr => ∃ k : Nat, ∃ cb : Bool, ∃ o : List Bool, k ≤ a.length ∧ o.length = k ∧ i = .int .i64 k ∧ c = .bool cb ∧ wr.ownsRow w.heap.size 4 1 v k (o.map Value.bool) ∧ Below w.heap.size w wr ∧
      Hid (bval o + bval (b.take k) = bval (a.take k) + 2 ^ k * bN cb)) (fun _ _ i _ => a.length - (intOf i).toNat)
  case atStart => exact ⟨0, false, [], by omega, rfl, rfl, rfl, World.ownsRow_nil _ _ _ _, Below.refl _ _, Lib.hid (by simp [bval, bN])⟩
  case round =>
    obtain ⟨k, cb, o, hk, hol, rfl, rfl, hown, hbel, hP⟩ := hrel
    have HOL := Lib.hid hol
    clear hol
    by_cases hlt : k < a.length
    · have LA := Lib.hid (at_any _ a k wr (HA.out.keep hbel))
      have LB := Lib.hid (at_any _ b k wr (HB.out.keep hbel))
      have hst := bsub_step (a := a) (b := b) HOL.out hP.out
      have HST := Lib.hid hst
      clear hst
      cases hx : bnth a k <;> cases hy : bnth b k <;> cases cb
      all_goals
        go_wp2_with (first
          | (go_at_call 54; ((with_reducible refine LA.out.mono ?_); rintro e w4 ⟨rfl, rfl⟩))
          | (go_at_call 54; ((with_reducible refine LB.out.mono ?_); rintro e w5 ⟨rfl, rfl⟩))
          | (at_builtin; go_must (refine append_one er65 rfl rfl hown rfl rfl rfl (by simp [Value.oneCell']) (by omega) (by omega) hbel.size ?_); intro v' w1 hown1 _ hb1 hne1))
        go_roundw
        case rel =>
          refine ⟨k + 1, _, o ++ [_], by omega, by rw [List.length_append, HOL.out]; rfl, by go_num, rfl, by rw [List.map_append]; exact hown1, hbel.trans hb1, Lib.hid ?_⟩
          have := HST.out
          rw [hx, hy] at this
          exact this
        case measure => simp [intOf]; omega
    · obtain rfl : k = a.length := by omega
      have hval : Hid (bval o = bval a - bval b) := Lib.hid (by
        have h1 := hP.out
        have h2 := HGE.out
        rw [bval_take_all (l := a) (by omega), ← HBA.out] at h1
        have h3 := bval_lt o
        rw [HOL.out] at h3
        cases cb
        · simp [bN] at h1; omega
        · simp [bN] at h1; omega)
      have HBT : Hid (BitAt wr u5 o) := Lib.hid (RowAt.owned hown)
      have hol2 : o.length ≤ 1000000 := by rw [HOL.out]; omega
      have HL := Lib.hid hol2
      clear hown hol2
      go_wp2_with (go_at_call 53; refine (rtrim_any _ _ _ HBT.out HL.out).mono ?_; rw [hval.out]; rintro e w4 ⟨v4, rfl, hv4, hb4⟩)
      go_ret
      exact ⟨_, rfl, hv4, bel2' hbel hb4⟩

end Go.Proofs.Ytlhkjkhbgebgiaa

namespace Go.Proofs.Ytlhkjkhbgebgiaa
open Go.RowKit Go.Proofs.Kit Go.Proofs.Nums

set_option maxHeartbeats 4000000 in
theorem rcmp_any (va vb : Value) (a b : List Bool) (w : World) (ha : BitAt w va a) (hb : BitAt w vb b) (hla : a.length ≤ 100000) (hlb : b.length ≤ 100000) :
    Calls Try.prog 38 #[va, vb] w fun e w' => e = .returned (.int .i64 (cmpN (bval a) (bval b))) ∧ Below w.heap.size w w' := by
  obtain ⟨p1, c1, rfl⟩ := ha.shape
  obtain ⟨p2, c2, rfl⟩ := hb.shape
  obtain ⟨M, hM1, hM2, hM3⟩ : ∃ M, a.length ≤ M ∧ b.length ≤ M ∧ (M ≤ a.length ∨ M ≤ b.length) := ⟨max a.length b.length, by omega, by omega, by omega⟩
  have HA := Lib.hid ha
  have HB := Lib.hid hb
  clear ha hb
  have h0 : Hid (∀ j, M ≤ j → bnth a j = bnth b j) := Lib.hid (fun j hj => by rw [bnth_ge (by omega), bnth_ge (by omega)])
  by_cases hxy : a.length < b.length
  all_goals
    go_enter Try.func38, Try.ntmps38
    go_wp2_with fail
    go_loopw [5] (fun i wr => ∃ k : Nat, k ≤ M ∧ i = .int .i64 ((k : Int) - 1) ∧ (∃ n, wr = w.drewN n) ∧ Hid (∀ j, k ≤ j → bnth a j = bnth b j)) (fun i _ => (intOf i + 1).toNat)
    case atStart => exact ⟨M, by omega, by go_num, ⟨0, rfl⟩, h0⟩
    case round =>
      obtain ⟨k, hk, rfl, ⟨n, rfl⟩, hP⟩ := hrel
      by_cases h0 : 0 < k
      · obtain ⟨m, rfl⟩ : ∃ m, k = m + 1 := ⟨k - 1, by omega⟩
        have LA := Lib.hid (at_any _ a m (w.drewN n) (HA.out.keep (below_drewN (Below.refl _ _) n)))
        have LB := Lib.hid (at_any _ b m (w.drewN n) (HB.out.keep (below_drewN (Below.refl _ _) n)))
        rw [show ((m + 1 : Nat) : Int) - 1 = (m : Int) by omega]
        cases hx : bnth a m <;> cases hy : bnth b m
        all_goals
          go_wp2_with (first
            | (go_at_call 54; ((with_reducible refine LA.out.mono ?_); rintro e w4 ⟨rfl, rfl⟩))
            | (go_at_call 54; ((with_reducible refine LB.out.mono ?_); rintro e w5 ⟨rfl, rfl⟩)))
        · go_roundw
          case rel =>
            refine ⟨m, by omega, by go_num, ⟨n, rfl⟩, Lib.hid fun j hj => ?_⟩
            by_cases hjm : j = m
            · subst hjm; rw [hx, hy]
            · exact hP.out j (by omega)
          case measure => simp [intOf] <;> omega
        · have hR : Hid (cmpN (bval a) (bval b) = -1) := Lib.hid (cmpN_lt (bcmp_lt (fun j hj => hP.out j (by omega)) hx hy))
          go_ret
          exact ⟨ret_i (by rw [hR.out]), below_drewN (Below.refl _ _) _⟩
        · have hR : Hid (cmpN (bval a) (bval b) = 1) := Lib.hid (cmpN_gt (bcmp_lt (fun j hj => (hP.out j (by omega)).symm) hy hx))
          go_ret
          exact ⟨ret_i (by rw [hR.out]), below_drewN (Below.refl _ _) _⟩
        · go_roundw
          case rel =>
            refine ⟨m, by omega, by go_num, ⟨n, rfl⟩, Lib.hid fun j hj => ?_⟩
            by_cases hjm : j = m
            · subst hjm; rw [hx, hy]
            · exact hP.out j (by omega)
          case measure => simp [intOf] <;> omega
      · obtain rfl : k = 0 := by omega
        have hR : Hid (cmpN (bval a) (bval b) = 0) := Lib.hid (cmpN_eq (bcmp_eq fun j => hP.out j (by omega)))
        go_wp2_with fail
        go_ret
        exact ⟨ret_i (by rw [hR.out]), below_drewN (Below.refl _ _) _⟩

end Go.Proofs.Ytlhkjkhbgebgiaa

namespace Go.Proofs.Ytlhkjkhbgebgiaa
open Go.RowKit Go.Proofs.Kit Go.Proofs.Nums

theorem or_u32 (a b : Nat) (ha : a < 4294967296) (hb : b < 4294967296) : Go.bits .or .u32 (a : Int) (b : Int) = ((a ||| b : Nat) : Int) := by
  have hx : a ||| b < 2 ^ 32 := Nat.or_lt_two_pow (by omega) (by omega)
  have h1 : (BitVec.ofInt 32 (a : Int)).toNat = a := by
    rw [BitVec.ofInt_natCast, BitVec.toNat_ofNat]; exact Nat.mod_eq_of_lt (by omega)
  have h2 : (BitVec.ofInt 32 (b : Int)).toNat = b := by
    rw [BitVec.ofInt_natCast, BitVec.toNat_ofNat]; exact Nat.mod_eq_of_lt (by omega)
  show IntKind.u32.wrap ((BitVec.ofInt 32 (a : Int) ||| BitVec.ofInt 32 (b : Int)).toNat : Int) = _
  rw [BitVec.toNat_or, h1, h2, IntKind.wrap_u32]
  omega

theorem and1_u32 (a : Nat) (ha : a < 4294967296) : Go.bits .and .u32 (a : Int) 1 = ((a % 2 : Nat) : Int) := by
  have h := bits_mask .u32 32 (by decide) (fun n h0 h1 => by rw [IntKind.wrap_u32]; omega) 1 (by decide) (a : Int) (by omega) (by omega)
  have e : ((2 : Int) ^ 1 - 1) = 1 := by decide
  rw [e] at h
  rw [h]
  omega

theorem bit_of (x q : Nat) (hx : x < 4294967296) : bN (Go.bits BinOp.and IntKind.u32 ((x : Int) / 2 ^ q) 1 == 1) = x / 2 ^ q % 2 := by
  have e : ((x : Int) / 2 ^ q) = ((x / 2 ^ q : Nat) : Int) := by rw [Int.natCast_ediv, Int.natCast_pow]; rfl
  have hle : x / 2 ^ q ≤ x := Nat.div_le_self _ _
  rw [e, and1_u32 _ (by omega)]
  have : x / 2 ^ q % 2 < 2 := Nat.mod_lt _ (by omega)
  generalize x / 2 ^ q % 2 = y at this
  match y, this with
  | 0, _ => rfl
  | 1, _ => rfl

end Go.Proofs.Ytlhkjkhbgebgiaa

namespace Go.Proofs.Ytlhkjkhbgebgiaa
open Go.RowKit Go.Proofs.Kit Go.Proofs.Nums

set_option maxHeartbeats 4000000 in
theorem from_any (v : Value) (a : List Nat) (w : World) (ha : NatAt w v a) (hla : a.length ≤ 1000) :
    Calls Try.prog 37 #[v] w fun e w' => ∃ v', e = .returned v' ∧ BitAt w' v' (bitsN (val a)) ∧ Below w.heap.size w w' := by
  obtain ⟨p1, c1, rfl⟩ := ha.shape
  have HA := Lib.hid ha
  clear ha
  go_enter Try.func37, Try.ntmps37
  go_wp2_with fail
  go_loopw [3, 4] (fun v i wr => ∃ k : Nat, ∃ o : List Bool, k ≤ a.length ∧ o.length = 32 * k ∧ i = .int .i64 k ∧ wr.ownsRow w.heap.size 4 1 v (32 * k) (o.map Value.bool) ∧ Below w.heap.size w wr ∧
      Hid (bval o = val (a.take k) + 2 ^ (32 * k) * (nth a k % 2 ^ 0))) (fun _ i _ => a.length - (intOf i).toNat)
  case atStart => exact ⟨0, [], by omega, rfl, rfl, World.ownsRow_nil _ _ _ _, Below.refl _ _, Lib.hid (by simp [bval, val, Nat.mod_one])⟩
  case round =>
    obtain ⟨k, o, hk, hol, rfl, hown, hbel, hP⟩ := hrel
    have HOL := Lib.hid hol
    clear hol
    by_cases hlt : k < a.length
    · have hxk0 := HA.out.2.nth k
      go_wp2_with fail
      go_loopw [3, 5] (fun v i wr => ∃ q : Nat, ∃ o : List Bool, q ≤ 32 ∧ Hid (o.length = 32 * k + q) ∧ i = .int .u64 q ∧ wr.ownsRow w.heap.size 4 1 v (32 * k + q) (o.map Value.bool) ∧ Below w.heap.size w wr ∧
          Hid (bval o = val (a.take k) + 2 ^ (32 * k) * (nth a k % 2 ^ q))) (fun _ i _ => 32 - (intOf i).toNat)
      case atStart => exact ⟨0, o, by omega, Lib.hid HOL.out, rfl, hown, hbel, hP⟩
      case round =>
        obtain ⟨q, o', hq, hol', rfl, hown', hbel', hP'⟩ := hrel
        by_cases hlt2 : q < 32
        · rcases (HA.out.keep hbel').cases with ⟨hx0, _⟩ | ⟨_, b1, o1, k1, hv1, hk1, hm1, hb1, hcell1⟩
          · rw [hx0] at hlt; simp at hlt
          simp only [Value.slice.injEq] at hv1
          obtain ⟨rfl, _, rfl⟩ := hv1
          have q1 := hcell1 k hlt
          clear hcell1
          go_wp2_with (at_builtin; go_must (refine append_one er65 rfl rfl hown' rfl rfl rfl (by simp [Value.oneCell']) (by omega) (by omega) hbel'.size ?_); intro v' w1 hown1 _ hb1 hne1)
          go_roundw
          case rel =>
            refine ⟨q + 1, o' ++ [_], by omega, Lib.hid (by rw [List.length_append, hol'.out]; rfl), by go_num, by rw [List.map_append]; exact hown1, hbel'.trans hb1, Lib.hid ?_⟩
            refine from_step hol'.out ?_ hP'.out
            exact bit_of _ _ hxk0
          case measure => simp [intOf] <;> omega
        · obtain rfl : q = 32 := by omega
          have hE := Lib.hid (from_end hxk0 hP'.out)
          go_wp2_with fail
          go_roundw
          case rel =>
            exact ⟨k + 1, o', by omega, by rw [hol'.out]; omega, by go_num, hown', hbel', hE⟩
          case measure => simp [intOf] <;> omega
    · obtain rfl : k = a.length := by omega
      have hval : Hid (bval o = val a) := Lib.hid (by rw [hP.out, List.take_length, nth_ge (Nat.le_refl _)]; simp)
      have HBT : Hid (BitAt wr u3 o) := Lib.hid (RowAt.owned hown)
      have hol2 : o.length ≤ 1000000 := by rw [HOL.out]; omega
      have HL := Lib.hid hol2
      clear hown hol2
      go_wp2_with (go_at_call 53; refine (rtrim_any _ _ _ HBT.out HL.out).mono ?_; rw [hval.out]; rintro e w4 ⟨v4, rfl, hv4, hb4⟩)
      go_ret
      exact ⟨_, rfl, hv4, bel2' hbel hb4⟩

end Go.Proofs.Ytlhkjkhbgebgiaa

namespace Go.Proofs.Ytlhkjkhbgebgiaa
open Go.RowKit Go.Proofs.Kit Go.Proofs.Nums

theorem ret_v {a b : Bool} (h : a = b) : Ending.returned (.bool a) = .returned (.bool b) := by rw [h]

/-- electionref01.Eq. -/
def eqN (a b : List Nat) : Bool := decide (a = b)

theorem eqN_len {a b : List Nat} (h : a.length ≠ b.length) : eqN a b = false := by unfold eqN; simp; intro h'; exact h (by rw [h'])
theorem eqN_ne {a b : List Nat} {k : Nat} (h : nth a k ≠ nth b k) : eqN a b = false := by unfold eqN; simp; intro h'; exact h (by rw [h'])
theorem eqN_all {a b : List Nat} (h : a.length = b.length) (hh : ∀ j, j < a.length → nth a j = nth b j) : eqN a b = true := by
  unfold eqN; simp
  refine List.ext_getElem h fun i h1 h2 => ?_
  have := hh i h1
  rw [nth_lt h1, nth_lt h2] at this; exact this

set_option maxHeartbeats 2000000 in
theorem req_any (va vb : Value) (a b : List Nat) (w : World) (ha : NatAt w va a) (hb : NatAt w vb b) (hla : a.length ≤ 1000000) (_hlb : b.length ≤ 1000000) :
    Calls Try.prog 62 #[va, vb] w fun e w' => e = .returned (.bool (eqN a b)) ∧ Below w.heap.size w w' := by
  obtain ⟨p1, c1, rfl⟩ := ha.shape
  obtain ⟨p2, c2, rfl⟩ := hb.shape
  have HA := Lib.hid ha
  have HB := Lib.hid hb
  clear ha hb
  by_cases hl : a.length = b.length
  · have hl1 : a.length ≤ b.length := by omega
    have hl2 : b.length ≤ a.length := by omega
    have hne : ((a.length : Int) != (b.length : Int)) = false := by rw [hl]; simp
    have HL := Lib.hid hl
    clear hl
    go_enter Try.func62, Try.ntmps62
    go_wp2_with fail
    go_loopw [5] (fun i wr => ∃ k : Nat, k ≤ a.length ∧ i = .int .i64 k ∧ (∃ n, wr = w.drewN n) ∧ Hid (∀ j, j < k → nth a j = nth b j)) (fun i _ => a.length - (intOf i).toNat)
    case atStart => exact ⟨0, by omega, rfl, ⟨0, rfl⟩, Lib.hid fun _ h => absurd h (by omega)⟩
    case round =>
      obtain ⟨k, hk, rfl, ⟨n, rfl⟩, hP⟩ := hrel
      by_cases hlt : k < a.length
      · rcases HA.out.cases with ⟨hx0, _⟩ | ⟨_, b1, o1, k1, hv1, hk1, hm1, hb1, hcell1⟩
        · rw [hx0] at hlt; simp at hlt
        rcases HB.out.cases with ⟨hy0, _⟩ | ⟨_, b2, o2, k2, hv2, hk2, hm2, hb2, hcell2⟩
        · exfalso; rw [hy0] at hl1; simp only [List.length_nil] at hl1; omega
        simp only [Value.slice.injEq] at hv1 hv2
        obtain ⟨rfl, _, rfl⟩ := hv1
        obtain ⟨rfl, _, rfl⟩ := hv2
        have q1 := hcell1 k (by omega)
        have q2 := hcell2 k (by omega)
        clear hcell1 hcell2
        by_cases heq : nth a k = nth b k
        · have HEQ := Lib.hid heq
          have hb' : ((nth a k : Int) != (nth b k : Int)) = false := by rw [heq]; simp
          clear heq
          go_wp2_with fail
          go_quiet (fail)
          go_wp2_with fail
          go_roundw
          case rel =>
            refine ⟨k + 1, by omega, by go_num, ⟨_, by first | rfl | (rw [World.drewN_drewN])⟩, Lib.hid fun j hj => ?_⟩
            by_cases hjk : j < k
            · exact hP.out j hjk
            · obtain rfl : j = k := by omega
              exact HEQ.out
          case measure => simp [intOf]; omega
        · have HE := Lib.hid (eqN_ne heq)
          have hb' : ((nth a k : Int) != (nth b k : Int)) = true := by rw [bne_iff_ne]; omega
          clear heq
          go_wp2_with fail
          go_quiet (fail)
          go_wp2_with fail
          go_ret
          exact ⟨ret_v (by rw [HE.out]), below_drewN (below_drewN (Below.refl _ _) _) _⟩
      · have HE := Lib.hid (eqN_all HL.out (fun j hj => hP.out j (by omega)))
        go_wp2_with fail
        go_ret
        exact ⟨ret_v (by rw [HE.out]), below_drewN (Below.refl _ _) _⟩
  · have HE := Lib.hid (eqN_len hl)
    have hne : ((a.length : Int) != (b.length : Int)) = true := by rw [bne_iff_ne]; omega
    clear hl
    go_enter Try.func62, Try.ntmps62
    go_wp2_with fail
    go_ret
    exact ⟨ret_v (by rw [HE.out]), Below.refl _ _⟩

end Go.Proofs.Ytlhkjkhbgebgiaa

namespace Go.Proofs.Ytlhkjkhbgebgiaa
open Go.RowKit Go.Proofs.Kit Go.Proofs.Nums

set_option maxHeartbeats 4000000 in
theorem to_any (v : Value) (b : List Bool) (w : World) (hb : BitAt w v b) (hlb : b.length ≤ 100000) :
    Calls Try.prog 63 #[v] w fun e w' => ∃ v', e = .returned v' ∧ NatAt w' v' (limbs (bval b)) ∧ Below w.heap.size w w' := by
  obtain ⟨p1, c1, rfl⟩ := hb.shape
  obtain ⟨x, hx⟩ : ∃ x, bitsN (bval b) = x := ⟨_, rfl⟩
  have hxl : x.length ≤ 100000 := by rw [← hx]; exact Nat.le_trans (bits_len_le _ _ (bval_lt b)) hlb
  have cb := rtrim_any _ b w hb (by omega)
  rw [hx] at cb
  have CB := Lib.hid cb
  have HX := Lib.hid hx
  clear hb cb hx
  go_enter Try.func63, Try.ntmps63
  go_wp2_with (first
    | (go_at_call 53; ((with_reducible refine CB.out.mono ?_); rintro e w1 ⟨v1, rfl, hv1, hb1⟩; obtain ⟨p1, c1, rfl⟩ := hv1.shape))
    | (at_make; go_must (refine make_any er28 rfl rfl rfl rfl (by omega) (by omega) (by omega) ?_); intro w3 hown3 hb3))
  obtain ⟨n, hn⟩ : ∃ n, (x.length + 31) / 32 = n := ⟨_, rfl⟩
  rw [show (((x.length : Int) + 31) / 32).toNat = n by omega] at *
  have hown := OwnNat.made hown3
  have V1 := Lib.hid hv1
  clear hv1 CB hown3
  go_loopw [4] (fun i wr => ∃ k : Nat, ∃ o : List Nat, k ≤ x.length ∧ i = .int .i64 k ∧ OwnNat wr w1.heap.size w1.heap.size n n o ∧ Below w1.heap.size w1 wr ∧
      Hid (val o = bval (x.take k))) (fun i _ => x.length - (intOf i).toNat)
  case atStart => exact ⟨0, _, by omega, rfl, hown, hb3, Lib.hid (by rw [val_zeros]; simp [bval])⟩
  case round =>
    obtain ⟨k, o, hk, rfl, hO, hbel, hP⟩ := hrel
    by_cases hlt : k < x.length
    · rcases (V1.out.keep hbel).cases with ⟨hx0, _⟩ | ⟨_, b1, o1, k1, hv1, hk1, hm1, hbb, hcell1⟩
      · rw [hx0] at hlt; simp at hlt
      simp only [Value.slice.injEq] at hv1
      obtain ⟨rfl, _, rfl⟩ := hv1
      have q1 := hcell1 k hlt
      clear hcell1
      cases hbit : bnth x k
      · rw [hbit] at q1
        have HO := Lib.hid hO
        clear hO
        go_wp2_with fail
        go_roundw
        case rel => exact ⟨k + 1, o, by omega, by go_num, HO.out, hbel, Lib.hid (to_skip hbit hP.out)⟩
        case measure => simp [intOf] <;> omega
      · rw [hbit] at q1
        have hlen := hO.1
        have hlt1 := to_lt (o := o) (x := x) (i := k) (by omega) hP.out
        have hlt2 := hO.2.1.nth (k / 32)
        have hp := pow_lt32 (r := k % 32) (by omega)
        have hlim := to_lim hlt1 (r := k % 32) (by omega)
        have hor := or_add hlt1
        have hcell := hO.cell (j := k / 32) (by omega)
        have hfree := hO.free (k / 32)
        have hput := hO.put (k / 32) (nth o (k / 32) + 2 ^ (k % 32)) hlim
        have HS := Lib.hid (to_step (o := o) (x := x) (i := k) (by omega) hbit hP.out)
        have HO := Lib.hid hO
        clear hO
        obtain ⟨q, hq⟩ : ∃ q, k / 32 = q := ⟨_, rfl⟩
        obtain ⟨r, hr⟩ : ∃ r, k % 32 = r := ⟨_, rfl⟩
        rw [hq] at hcell hfree
        go_wp2_with fail
        subst hq hr
        have e0 : ((2 : Int) ^ (k % 32) % 4294967296) = ((2 ^ (k % 32) : Nat) : Int) := by
          rw [show ((2 : Int) ^ (k % 32)) = ((2 ^ (k % 32) : Nat) : Int) by rw [Int.natCast_pow]; rfl]
          omega
        have e1 : Go.bits BinOp.or IntKind.u32 (nth o (k / 32) : Int) ((2 : Int) ^ (k % 32) % 4294967296) = ((nth o (k / 32) + 2 ^ (k % 32) : Nat) : Int) := by
          rw [e0, or_u32 _ _ hlt2 hp, hor]
        go_roundw
        case rel =>
          rw [e1]
          exact ⟨k + 1, _, by omega, by go_num, hput.1, hbel.trans hput.2, HS⟩
        case measure => simp [intOf] <;> omega
    · obtain rfl : k = x.length := by omega
      have HE := Lib.hid (to_end (o := o) (n := bval b) hO.2.1 (by rw [HX.out, hO.1, hn]) (by rw [hP.out, List.take_length, ← HX.out, bval_bits]))
      have HO := Lib.hid hO
      clear hO
      go_wp2_with fail
      go_ret
      subst hn
      refine ⟨_, rfl, ?_, bel2' hb1 hbel⟩
      rw [← HE.out]
      exact HO.out.read

end Go.Proofs.Ytlhkjkhbgebgiaa
