import Derived.Test.YteobjelenfjifaaDoorNb
namespace Go.Proofs.YteobjelenfjifaaDoor
open Go.RowKit Go.Proofs.Kit Go.Proofs.Nums

theorem ret_i {k : IntKind} {a b : Int} (h : a = b) : Ending.returned (.int k a) = .returned (.int k b) := by rw [h]

set_option maxHeartbeats 2000000 in
theorem cmp_any (va vb : Value) (a b : List Nat) (w : World) (ha : NatAt w va a) (hb : NatAt w vb b) (hla : a.length ≤ 1000000) (hlb : b.length ≤ 1000000) :
    Calls Tryd.prog 27 #[va, vb] w fun e w' => e = .returned (.int .i64 (cmpN (val a) (val b))) ∧ Below w.heap.size w w' := by
  obtain ⟨x, hx⟩ : ∃ x, limbs (val a) = x := ⟨_, rfl⟩
  obtain ⟨y, hy⟩ : ∃ y, limbs (val b) = y := ⟨_, rfl⟩
  have hxl : x.length ≤ 1000000 := by rw [← hx]; exact Nat.le_trans (limbs_len_le _ _ (val_lt a ha.2)) hla
  have hyl : y.length ≤ 1000000 := by rw [← hy]; exact Nat.le_trans (limbs_len_le _ _ (val_lt b hb.2)) hlb
  have ca := trim_any va a w ha
  have cb := trim_any vb b w hb
  rw [hx] at ca
  rw [hy] at cb
  have CA := Lib.hid ca
  have CB := Lib.hid cb
  by_cases hl1 : x.length < y.length
  · have hR : Hid (cmpN (val a) (val b) = -1) := Lib.hid (cmpN_lt (len_lt (by rw [hx, hy]; exact hl1)))
    have hne : ((x.length : Int) != (y.length : Int)) = true := by rw [bne_iff_ne]; omega
    clear ha hb hla hlb hx hy ca cb
    go_enter Tryd.func27, Tryd.ntmps27
    go_wp2_with (first
      | (go_at_call 40; ((with_reducible refine CA.out.mono ?_); rintro e w1 ⟨v1, rfl, hv1, rfl⟩; obtain ⟨p1, c1, rfl⟩ := hv1.shape))
      | (go_at_call 40; ((with_reducible refine CB.out.mono ?_); rintro e w2 ⟨v2, rfl, hv2, rfl⟩; obtain ⟨p2, c2, rfl⟩ := hv2.shape)))
    go_ret
    exact ⟨ret_i (by rw [hR.out]), Below.refl _ _⟩
  by_cases hl2 : y.length < x.length
  · have hR : Hid (cmpN (val a) (val b) = 1) := Lib.hid (cmpN_gt (len_lt (by rw [hx, hy]; exact hl2)))
    have hne : ((x.length : Int) != (y.length : Int)) = true := by rw [bne_iff_ne]; omega
    clear ha hb hla hlb hx hy ca cb
    go_enter Tryd.func27, Tryd.ntmps27
    go_wp2_with (first
      | (go_at_call 40; ((with_reducible refine CA.out.mono ?_); rintro e w1 ⟨v1, rfl, hv1, rfl⟩; obtain ⟨p1, c1, rfl⟩ := hv1.shape))
      | (go_at_call 40; ((with_reducible refine CB.out.mono ?_); rintro e w2 ⟨v2, rfl, hv2, rfl⟩; obtain ⟨p2, c2, rfl⟩ := hv2.shape)))
    go_ret
    exact ⟨ret_i (by rw [hR.out]), Below.refl _ _⟩
  have hne : ((x.length : Int) != (y.length : Int)) = false := by
    rw [show x.length = y.length by omega]; simp
  have hxv : Hid (val x = val a) := Lib.hid (by rw [← hx, val_limbs])
  have hyv : Hid (val y = val b) := Lib.hid (by rw [← hy, val_limbs])
  clear ha hb hla hlb hx hy ca cb
  go_enter Tryd.func27, Tryd.ntmps27
  go_wp2_with (first
    | (go_at_call 40; ((with_reducible refine CA.out.mono ?_); rintro e w1 ⟨v1, rfl, hv1, rfl⟩; obtain ⟨p1, c1, rfl⟩ := hv1.shape))
    | (go_at_call 40; ((with_reducible refine CB.out.mono ?_); rintro e w2 ⟨v2, rfl, hv2, rfl⟩; obtain ⟨p2, c2, rfl⟩ := hv2.shape)))
  have V1 := Lib.hid hv1
  have V2 := Lib.hid hv2
  clear hv1 hv2 CA CB
  go_loopw [5] (fun i wr => ∃ k : Nat, k ≤ x.length ∧ i = .int .i64 ((k : Int) - 1) ∧ (∃ n, wr = w.drewN n) ∧ Hid (x.drop k = y.drop k)) (fun i _ => (intOf i + 1).toNat)
  case atStart => exact ⟨x.length, by omega, rfl, ⟨0, rfl⟩, Lib.hid (by rw [List.drop_length, List.drop_of_length_le (by omega)])⟩
  case round =>
    obtain ⟨k, hk, rfl, ⟨n, rfl⟩, hP⟩ := hrel
    by_cases h0 : 0 < k
    · obtain ⟨m, rfl⟩ : ∃ m, k = m + 1 := ⟨k - 1, by omega⟩
      rcases V1.out.cases with ⟨hx0, _⟩ | ⟨_, b1, o1, k1, hv1, hk1, hm1, hb1, hcell1⟩
      · rw [hx0] at hk; simp at hk
      rcases V2.out.cases with ⟨hy0, _⟩ | ⟨_, b2, o2, k2, hv2, hk2, hm2, hb2, hcell2⟩
      · exfalso; rw [hy0] at hl2; simp only [List.length_nil] at hl2; omega
      simp only [Value.slice.injEq] at hv1 hv2
      obtain ⟨rfl, _, rfl⟩ := hv1
      obtain ⟨rfl, _, rfl⟩ := hv2
      have q1 := hcell1 m (by omega)
      have q2 := hcell2 m (by omega)
      clear hcell1 hcell2
      by_cases hlt : nth x m < nth y m
      · have hR : Hid (cmpN (val a) (val b) = -1) := Lib.hid (by rw [← hxv.out, ← hyv.out]; exact cmpN_lt (val_lt_of V1.out.2 (by omega) (by omega) hP.out hlt))
        go_wp2_with fail
        go_quiet (fail)
        go_wp2_with fail
        go_ret
        exact ⟨ret_i (by rw [hR.out]), below_drewN (below_drewN (Below.refl _ _) _) _⟩
      by_cases hgt : nth y m < nth x m
      · have hR : Hid (cmpN (val a) (val b) = 1) := Lib.hid (by rw [← hxv.out, ← hyv.out]; exact cmpN_gt (val_lt_of V2.out.2 (by omega) (by omega) hP.out.symm hgt))
        go_wp2_with fail
        go_quiet (fail)
        go_wp2_with fail
        go_quiet (fail)
        go_wp2_with fail
        go_ret
        exact ⟨ret_i (by rw [hR.out]), below_drewN (below_drewN (below_drewN (Below.refl _ _) _) _) _⟩
      have hN := Lib.hid (drop_eq_step (by omega) (by omega) hP.out (by omega))
      go_wp2_with fail
      go_quiet (fail)
      go_wp2_with fail
      go_quiet (fail)
      go_wp2_with fail
      go_roundw
      case rel => exact ⟨m, by omega, by go_num, ⟨_, by first | rfl | (rw [World.drewN_drewN, World.drewN_drewN])⟩, hN⟩
      case measure => simp [intOf]
    · obtain rfl : k = 0 := by omega
      have hR : Hid (cmpN (val a) (val b) = 0) := Lib.hid (by
        have := hP.out
        rw [List.drop_zero, List.drop_zero] at this
        exact cmpN_eq (by rw [← hxv.out, ← hyv.out, this]))
      go_wp2_with fail
      go_ret
      exact ⟨ret_i (by rw [hR.out]), below_drewN (Below.refl _ _) _⟩

/-- What Sub hands back. -/
def SubRet (a b : Nat) (e : Ending) (w' : World) : Prop :=
  if b ≤ a then ∃ v', e = .returned (.tuple #[v', .bool true]) ∧ NatAt w' v' (limbs (a - b)) else e = .returned (.tuple #[.slice none 0 0, .bool false])

set_option maxHeartbeats 2000000 in
theorem sub_any (va vb : Value) (a b : List Nat) (w : World) (ha : NatAt w va a) (hb : NatAt w vb b) (hla : a.length ≤ 1000000) (hlb : b.length ≤ 1000000) :
    Calls Tryd.prog 21 #[va, vb] w fun e w' => SubRet (val a) (val b) e w' ∧ Below w.heap.size w w' := by
  obtain ⟨x, hx⟩ : ∃ x, limbs (val a) = x := ⟨_, rfl⟩
  obtain ⟨y, hy⟩ : ∃ y, limbs (val b) = y := ⟨_, rfl⟩
  have hxl : x.length ≤ 1000000 := by rw [← hx]; exact Nat.le_trans (limbs_len_le _ _ (val_lt a ha.2)) hla
  have hyl : y.length ≤ 1000000 := by rw [← hy]; exact Nat.le_trans (limbs_len_le _ _ (val_lt b hb.2)) hlb
  have hxv : val x = val a := by rw [← hx, val_limbs]
  have hyv : val y = val b := by rw [← hy, val_limbs]
  have ca := trim_any va a w ha
  have cb := trim_any vb b w hb
  rw [hx] at ca
  rw [hy] at cb
  have CA := Lib.hid ca
  have CB := Lib.hid cb
  have HXL := Lib.hid hxl
  have HYL := Lib.hid hyl
  have HXV := Lib.hid hxv
  have HYV := Lib.hid hyv
  by_cases hge : val b ≤ val a
  · have hc : ¬ cmpN (val x) (val y) < 0 := by rw [hxv, hyv]; unfold cmpN; rw [if_neg (by omega)]; split <;> omega
    have hyx : y.length ≤ x.length := by
      rcases Nat.lt_or_ge x.length y.length with h | h
      · rw [← hx, ← hy] at h; have := len_lt h; omega
      · exact h
    have hR : Hid (SubRet (val a) (val b) = fun e w' => ∃ v', e = .returned (.tuple #[v', .bool true]) ∧ NatAt w' v' (limbs (val a - val b))) := Lib.hid (by funext e w'; unfold SubRet; rw [if_pos hge])
    have HGE := Lib.hid hge
    clear ha hb hla hlb hx hy hxv hyv ca cb hge
    go_enter Tryd.func21, Tryd.ntmps21
    go_wp2_with (first
      | (go_at_call 40; ((with_reducible refine CA.out.mono ?_); rintro e w1 ⟨v1, rfl, hv1, rfl⟩; obtain ⟨p1, c1, rfl⟩ := hv1.shape))
      | (go_at_call 40; ((with_reducible refine CB.out.mono ?_); rintro e w2 ⟨v2, rfl, hv2, rfl⟩; obtain ⟨p2, c2, rfl⟩ := hv2.shape))
      | (go_at_call 27; refine (cmp_any _ _ x y _ hv1 hv2 HXL.out HYL.out).mono ?_; rintro e w3 ⟨rfl, hb3⟩)
      | (at_make; go_must (refine make_any er24 rfl rfl rfl rfl (by omega) (by omega) (by omega) ?_); intro w4 hown4 hb4))
    rw [Int.toNat_natCast] at hown4
    have hown := OwnNat.made hown4
    have hb04 : Below w.heap.size w w4 := hb3.trans (hb4.mono hb3.size)
    have V1 := Lib.hid (hv1.keep hb3)
    have V2 := Lib.hid (hv2.keep hb3)
    clear hown4 hv1 hv2 CA CB
    go_loopw [7, 23] (fun c i wr => ∃ k cc : Nat, ∃ o : List Nat, k ≤ x.length ∧ cc ≤ 1 ∧ i = .int .i64 k ∧ c = .int .u64 cc ∧ OwnNat wr w3.heap.size w3.heap.size x.length x.length o ∧ Below w3.heap.size w3 wr ∧
        Hid (val (o.take k) + val (y.take k) = val (x.take k) + 4294967296 ^ k * cc)) (fun _ i _ => x.length - (intOf i).toNat)
    case atStart => exact ⟨0, 0, _, by omega, by omega, rfl, rfl, hown, hb4, Lib.hid (by simp [val])⟩
    case round =>
      obtain ⟨k, cc, o, hk, hcc, rfl, rfl, hO, hbel, hP⟩ := hrel
      by_cases hlt : k < x.length
      · have hx1 := V1.out.2.nth k
        have hy1 := V2.out.2.nth k
        have LA := Lib.hid (limb_any _ x k wr (V1.out.keep hbel))
        have LB := Lib.hid (limb_any _ y k wr (V2.out.keep hbel))
        have hcell := hO.cell (j := k) (by omega)
        have hfree := hO.free k
        have HO := Lib.hid hO
        clear hO
        have hsub1 : 0 ≤ 4294967296 + (nth x k : Int) - (nth y k : Int) := by omega
        have hsub2 : 0 ≤ 4294967296 + (nth x k : Int) - (nth y k : Int) - (cc : Int) := by omega
        have hsub3 : (4294967296 + (nth x k : Int) - (nth y k : Int) - (cc : Int)) / 4294967296 ≤ 1 := by omega
        have hsub4 : 0 ≤ (4294967296 + (nth x k : Int) - (nth y k : Int) - (cc : Int)) / 4294967296 := by omega
        go_wp2_with (first
          | (go_at_call 43; ((with_reducible refine LA.out.mono ?_); rintro e w5 ⟨rfl, rfl⟩))
          | (go_at_call 43; ((with_reducible refine LB.out.mono ?_); rintro e w6 ⟨rfl, rfl⟩)))
        obtain ⟨t, ht⟩ : ∃ t, t + nth y k + cc = 4294967296 + nth x k := ⟨4294967296 + nth x k - nth y k - cc, by omega⟩
        have e1 : (4294967296 + (nth x k : Int) - (nth y k : Int) - (cc : Int)) % 4294967296 = ((t % 4294967296 : Nat) : Int) := by omega
        have e2 : 1 - (4294967296 + (nth x k : Int) - (nth y k : Int) - (cc : Int)) / 4294967296 = ((1 - t / 4294967296 : Nat) : Int) := by omega
        have hput := HO.out.put k (t % 4294967296) (Nat.mod_lt _ (by omega))
        have hlo := HO.out.1
        go_roundw
        case rel =>
          rw [e1, e2]
          exact ⟨k + 1, 1 - t / 4294967296, o.set k (t % 4294967296), by omega, by omega, by go_num, rfl, hput.1, hbel.trans hput.2, Lib.hid (sub_step (by omega) ht hP.out (by omega))⟩
        case measure => simp [intOf]; omega
      · obtain rfl : k = x.length := by omega
        have hval : Hid (val o = val a - val b) := Lib.hid (by
          have h1 := hP.out
          rw [val_take_all (Nat.le_of_eq hO.1), val_take_all hyx, val_take_all (Nat.le_refl _), HXV.out, HYV.out] at h1
          have h2 := val_lt o hO.2.1
          rw [hO.1] at h2
          have h3 : cc = 0 := by
            rcases Nat.eq_zero_or_pos cc with h | h
            · exact h
            · obtain rfl : cc = 1 := by omega
              have := HGE.out
              omega
          rw [h3] at h1
          omega)
        have hlen : o.length ≤ 1000000000 := by rw [hO.1]; omega
        have HLEN := Lib.hid hlen
        have HO := Lib.hid hO
        clear hlen hO
        go_wp2_with (go_at_call 20; refine (norm_any _ _ _ HO.out.read HLEN.out).mono ?_; rw [hval.out]; rintro e w5 ⟨v5, rfl, hv5, hb5⟩)
        go_ret2
        rw [hR.out]
        exact ⟨⟨_, rfl, hv5⟩, (hb3.trans (hbel.mono hb3.size)).trans (hb5.mono (Nat.le_trans hb3.size hbel.size))⟩
  · have hc : cmpN (val x) (val y) < 0 := by rw [hxv, hyv, cmpN_lt (by omega)]; omega
    have hR : Hid (SubRet (val a) (val b) = fun e _ => e = .returned (.tuple #[.slice none 0 0, .bool false])) := Lib.hid (by funext e w'; unfold SubRet; rw [if_neg hge])
    clear ha hb hla hlb hx hy hxv hyv ca cb hge
    go_enter Tryd.func21, Tryd.ntmps21
    go_wp2_with (first
      | (go_at_call 40; ((with_reducible refine CA.out.mono ?_); rintro e w1 ⟨v1, rfl, hv1, rfl⟩))
      | (go_at_call 40; ((with_reducible refine CB.out.mono ?_); rintro e w2 ⟨v2, rfl, hv2, rfl⟩))
      | (go_at_call 27; refine (cmp_any _ _ x y _ hv1 hv2 HXL.out HYL.out).mono ?_; rintro e w3 ⟨rfl, hb3⟩))
    go_ret2
    rw [hR.out]
    exact ⟨rfl, hb3⟩

end Go.Proofs.YteobjelenfjifaaDoor
