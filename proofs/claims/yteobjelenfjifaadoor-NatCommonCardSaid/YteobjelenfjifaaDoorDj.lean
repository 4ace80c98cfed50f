import Derived.Test.YteobjelenfjifaaDoorDi
namespace Go.Proofs.YteobjelenfjifaaDoor
open Go.RowKit Go.Proofs.Kit Go.Proofs.Nums

theorem ownsRow_same {w w' : World} {base size n : Nat} {e : TypeId} {v : Value} {xs : List Value} (h : w.ownsRow base e size v n xs) (hh : ∀ b, v.ownBlock = some b → w'.heap[b]? = w.heap[b]?) : w'.ownsRow base e size v n xs := by
  refine ⟨h.1, ?_⟩
  rcases h.2 with hn | ⟨g, cap, cur, rfl, hbg, hgg, rest⟩
  · exact .inl hn
  · refine .inr ⟨g, cap, cur, rfl, hbg, ?_, rest⟩
    rw [hh g rfl]
    exact hgg

theorem NatAt.put {w : World} {v : Value} {l : List Nat} {g o : Nat} {u : Value} (h : NatAt w v l) (hg : v.ownBlock ≠ some g) : NatAt (w.setCell ⟨g, o, none⟩ u) v l :=
  NatAtSame h fun b hb => Below.heap_setCell w _ u b (by intro e; apply hg; rw [hb, e])

theorem OwnNat.other {w : World} {base g n cap : Nat} {o : List Nat} {g' j : Nat} {u : Value} (h : OwnNat w base g n cap o) (hg : g ≠ g') : OwnNat (w.setCell ⟨g', j, none⟩ u) base g n cap o :=
  ⟨h.1, h.2.1, ownsRow_same h.2.2 fun b hb => Below.heap_setCell w _ u b (by
    simp [Value.ownBlock] at hb
    subst hb
    exact hg)⟩

theorem and_low (P : Nat) (hP : P < 18446744073709551616) : Go.bits .and .u64 (P : Int) 4294967295 = ((P % 4294967296 : Nat) : Int) := by
  have h := bits_mask .u64 64 (by decide) (fun n h0 h1 => by rw [IntKind.wrap_u64]; omega) 32 (by decide) (P : Int) (by omega) (by omega)
  have e : ((2 : Int) ^ 32 - 1) = 4294967295 := by decide
  rw [e] at h
  rw [h]
  omega

theorem msub_lt {q v c : Nat} (hq : q < 4294967296) (hv : v < 4294967296) (hc : c < 4294967296) : q * v + c < 18446744073709551616 ∧ (q * v + c) / 4294967296 < 4294967296 := by
  have h1 : q * v ≤ 4294967295 * 4294967295 := Nat.mul_le_mul (by omega) (by omega)
  constructor <;> omega

theorem own_lt {w : World} {v : Value} {l : List Nat} (h : NatAt w v l) (h0 : 0 < l.length) : ∀ b, v.ownBlock = some b → b < w.heap.size := by
  rcases h.cases with ⟨h1, _⟩ | ⟨_, b, o, k, rfl, _, _, hb, _⟩
  · rw [h1] at h0; simp at h0
  · intro b' hb'
    simp [Value.ownBlock] at hb'
    omega

theorem below_drew {w w' : World} (h : ∃ d, w' = w.drewN d) : Below w.heap.size w w' := by
  obtain ⟨d, rfl⟩ := h; exact below_drewN (Below.refl _ _) d

theorem quiet_limb {va : Value} {a : List Nat} {i n : Nat} {w : World} (h : NatAt w va a) :
    Calls Tryd.prog 43 #[va, .int .i64 i] (w.drewN n) fun e w' => e = .returned (.int .u64 ((nth a i : Nat) : Int)) ∧ w' = w.drewN n :=
  (limb_any va a i (w.drewN n) (h.keep (below_drewN (Below.refl _ _) n))).mono fun _ _ ⟨h1, h2⟩ => ⟨h1, h2.symm⟩

theorem drop_step {x y : List Nat} {i j z : Nat} (h : y.drop (i + j) = x.drop (i + j)) : (y.set (i + j) z).drop (i + 1 + j) = x.drop (i + 1 + j) := by
  rw [List.drop_set_of_lt (by omega), show i + 1 + j = i + j + 1 by omega]
  have h2 := congrArg (List.drop 1) h
  rw [List.drop_drop, List.drop_drop] at h2
  exact h2

set_option maxRecDepth 1000000 in
set_option maxHeartbeats 8000000 in
theorem long_any (vv : Value) (u v : List Nat) (B g c : Nat) (w : World) (hU : OwnNat w B g u.length c u) (hv : NatAt w vv v) (hg : vv.ownBlock ≠ some g) (hB : B ≤ w.heap.size)
    (hn : 2 ≤ v.length) (hL : v.length < u.length) (hul : u.length ≤ 1000001) (htop : 2147483648 ≤ nth v (v.length - 1)) (hlt : val (u.drop (u.length - v.length)) < val v) :
    Calls Tryd.prog 54 #[.slice (some ⟨g, 0, none⟩) u.length c, vv] w fun e w' => ∃ v' o u', e = .returned v' ∧ NatAt w' v' o ∧ OwnNat w' B g u.length c u' ∧ Hid (val o * val v + val u' = val u ∧ val u' < val v ∧ o.length ≤ u.length) ∧ Below B w w' := by
  obtain ⟨p2, c2, rfl⟩ := hv.shape
  obtain ⟨n, hnn⟩ : ∃ n, v.length = n := ⟨_, rfl⟩
  obtain ⟨L, hLL⟩ : ∃ L, u.length = L := ⟨_, rfl⟩
  rw [hnn] at hn hL htop hlt hg ⊢
  rw [hLL] at hL hul hU hlt ⊢
  obtain ⟨m, hm⟩ : ∃ m, L - n = m := ⟨_, rfl⟩
  rw [hm] at hlt
  have hmi : (L : Int) - (n : Int) = (m : Int) := by omega
  have HNN := Lib.hid hnn
  have HTOP := Lib.hid htop
  have HLT := Lib.hid hlt
  have HG := Lib.hid hg
  have hgl := hU.lt
  have HU := Lib.hid hU
  have HV := Lib.hid hv
  have hvl := hv.2
  rw [hnn] at HV
  have HVL := Lib.hid hvl
  have hLm : L = m + n := by omega
  have HLm := Lib.hid hLm
  clear hnn hm htop hlt hg hU hv hvl hLL hLm
  go_enter Tryd.func54, Tryd.ntmps54
  go_wp2_with (at_make; go_must (refine make_any er24 rfl rfl rfl rfl (by omega) (by omega) (by omega) ?_); intro w3 hown3 hb3)
  rw [Int.toNat_natCast] at hown3
  have hown := OwnNat.made hown3
  have HG2 : Hid ((Value.slice p2 n c2).ownBlock ≠ some w.heap.size) := Lib.hid (fun h => Nat.lt_irrefl _ (own_lt HV.out (by rw [HNN.out]; omega) _ h))
  have hbB : Below B w w3 := hb3.mono hB
  clear hown3
  go_loopw [7] (fun iv wr => ∃ k : Nat, ∃ x o : List Nat, k ≤ m ∧ iv = .int .i64 ((k : Int) - 1) ∧ OwnNat wr B g L c x ∧ OwnNat wr w.heap.size w.heap.size m m o ∧ NatAt wr (.slice p2 n c2) v ∧ Below B w wr ∧
      Hid (val (o.drop k) * val v * 4294967296 ^ k + val x = val u) ∧ Hid (val (x.drop k) < val v)) (fun iv _ => (intOf iv + 1).toNat)
  case atStart => exact ⟨m, u, _, by omega, by go_num, HU.out.keep hb3, hown, HV.out.keep hb3, hbB, Lib.hid (by rw [List.drop_of_length_le (by simp)]; simp [val]), HLT⟩
  case round =>
    obtain ⟨k, x, o, hk, rfl, hX, hO, hv, hbel, hP, hR⟩ := hrel
    by_cases h0 : 0 < k
    · obtain ⟨j, rfl⟩ : ∃ j, k = j + 1 := ⟨k - 1, by omega⟩
      rw [show ((j + 1 : Nat) : Int) - 1 = (j : Int) by omega]
      have hLm1 : L ≤ m + n := Nat.le_of_eq HLm.out
      have hLm2 : m + n ≤ L := Nat.le_of_eq HLm.out.symm
      have HXL := Lib.hid hX.1
      have HXLim := Lib.hid hX.2.1
      have hzz : Hid (val (x.drop (j + n + 1)) = 0) := Lib.hid (by
        have := long_zero (u := x) (k := j + 1) HVL.out (by rw [HNN.out, HXL.out]; omega) hR.out
        rw [HNN.out, show j + 1 + n = j + n + 1 by omega] at this; exact this)
      have hwin : Hid (val (x.drop j) < val v * 4294967296) := Lib.hid (long_window HXLim.out (by rw [HXL.out]; omega) hR.out)
      have G := guess_any _ _ x v j wr hX.read hv (by rw [HNN.out]; exact hn) (by rw [HNN.out, HXL.out]; omega) (by rw [HXL.out]; exact hul) (by rw [HNN.out]; exact HTOP.out) (by rw [HNN.out]; exact hzz.out) hwin.out
      have HGU := Lib.hid G
      have HX := Lib.hid hX
      have HO := Lib.hid hO
      have HVR := Lib.hid hv
      clear G hX hO hv
      go_wp2_with (go_at_call 61; ((with_reducible refine HGU.out.mono ?_); rintro e w4 ⟨q, rfl, hq, hd⟩; have hb4 := below_drew hd; clear hd))
      clear HGU
      have hql := hq.out.1
      have X4 := HX.out.keep hb4
      have O4 := HO.out.keep hb4
      have V4 := HVR.out.keep hb4
      have B4 := hbel.trans (hb4.mono (Nat.le_trans hB (by have := hbel.size; exact this)))
      clear HX HO HVR hb4
      go_loopw [9, 10, 38] (fun bv cv iv ws => ∃ i cc bo : Nat, ∃ y : List Nat, i ≤ n + 1 ∧ cc < 4294967296 ∧ bo ≤ 1 ∧ iv = .int .i64 i ∧ cv = .int .u64 cc ∧ bv = .int .u64 bo ∧ OwnNat ws B g L c y ∧ OwnNat ws w.heap.size w.heap.size m m o ∧ NatAt ws (.slice p2 n c2) v ∧ Below B w ws ∧
          Hid (val y + 4294967296 ^ j * (q * val (v.take i)) = val x + 4294967296 ^ (i + j) * (cc + bo)) ∧ Hid (n < i → cc = 0) ∧ Hid (y.drop (i + j) = x.drop (i + j))) (fun _ _ iv _ => n + 1 - (intOf iv).toNat)
      case atStart => exact ⟨0, 0, 0, x, by omega, by omega, by omega, rfl, rfl, rfl, X4, O4, V4, B4, Lib.hid (by simp [val]), Lib.hid (fun h => absurd h (by omega)), Lib.hid rfl⟩
      case round =>
        obtain ⟨i, cc, bo, y, hi, hcc, hbo, rfl, rfl, rfl, hY, hO, hv, hbs, hE, hC, hD⟩ := hrel
        by_cases hin : i < n + 1
        · have hVi := HVL.out.nth i
          have hYi := hY.2.1.nth (i + j)
          have LB := Lib.hid (limb_any _ v i wr hv)
          obtain ⟨P, hPP⟩ : ∃ P, q * nth v i + cc = P := ⟨_, rfl⟩
          obtain ⟨hP64, hPH⟩ := msub_lt hql hVi hcc
          rw [hPP] at hP64 hPH
          obtain ⟨QV, hQV⟩ : ∃ QV, q * nth v i = QV := ⟨_, rfl⟩
          have hQVi : (q : Int) * (nth v i : Int) = (QV : Int) := by rw [← hQV, Int.natCast_mul]
          have hPi : (QV : Int) + (cc : Int) = (P : Int) := by omega
          obtain ⟨PL, hPL⟩ : ∃ PL, P % 4294967296 = PL := ⟨_, rfl⟩
          obtain ⟨PH, hPHH⟩ : ∃ PH, P / 4294967296 = PH := ⟨_, rfl⟩
          have hand := and_low P hP64
          rw [hPL] at hand
          have hshr : (P : Int) / 4294967296 = (PH : Int) := by omega
          rw [hPHH] at hPH
          have hPLb : PL < 4294967296 := by omega
          have hsub1 : 0 ≤ 4294967296 + (nth y (i + j) : Int) - (PL : Int) := by omega
          have hsub2 : 0 ≤ 4294967296 + (nth y (i + j) : Int) - (PL : Int) - (bo : Int) := by omega
          have hsub3 : (4294967296 + (nth y (i + j) : Int) - (PL : Int) - (bo : Int)) / 4294967296 ≤ 1 := by omega
          have hsub4 : 0 ≤ (4294967296 + (nth y (i + j) : Int) - (PL : Int) - (bo : Int)) / 4294967296 := by omega
          have hcell := hY.cell (j := i + j) (by omega)
          have hfree := hY.free (i + j)
          have hC0 : Hid (n < i + 1 → PH = 0) := Lib.hid (fun h => by
            have hv0 : nth v i = 0 := nth_ge (by rw [HNN.out]; omega)
            rw [hv0, Nat.mul_zero] at hQV
            omega)
          obtain ⟨t, ht⟩ : ∃ t, t + PL + bo = 4294967296 + nth y (i + j) := ⟨4294967296 + nth y (i + j) - PL - bo, by omega⟩
          have hst : Hid (val (y.set (i + j) (t % 4294967296)) + 4294967296 ^ j * (q * val (v.take (i + 1))) = val x + 4294967296 ^ (i + 1 + j) * (PH + (1 - t / 4294967296))) := Lib.hid (by
            rw [← hPHH]
            exact msub_step (by rw [hY.1]; omega) hPP.symm (by rw [hPL]; exact ht) (by omega) hE.out)
          have hdr : Hid ((y.set (i + j) (t % 4294967296)).drop (i + 1 + j) = x.drop (i + 1 + j)) := Lib.hid (drop_step hD.out)
          have HPUT := Lib.hid (hY.put (i + j) (t % 4294967296) (Nat.mod_lt _ (by omega)))
          have HOO : Hid (OwnNat (wr.setCell ⟨g, i + j, none⟩ (.int .u32 ((t % 4294967296 : Nat) : Int))) w.heap.size w.heap.size m m o) := Lib.hid (hO.other (by omega))
          have HVV : Hid (NatAt (wr.setCell ⟨g, i + j, none⟩ (.int .u32 ((t % 4294967296 : Nat) : Int))) (.slice p2 n c2) v) := Lib.hid (hv.put HG.out)
          have HT := Lib.hid ht
          clear hY hO hv hQV hPL hPHH ht hPP hE hC hD
          go_wp2_with (go_at_call 43; ((with_reducible refine LB.out.mono ?_); rintro e w5 ⟨rfl, rfl⟩))
          have ht := HT.out
          have e1 : (4294967296 + (nth y (i + j) : Int) - (PL : Int) - (bo : Int)) % 4294967296 = ((t % 4294967296 : Nat) : Int) := by omega
          have e2 : 1 - (4294967296 + (nth y (i + j) : Int) - (PL : Int) - (bo : Int)) / 4294967296 = ((1 - t / 4294967296 : Nat) : Int) := by omega
          go_roundw
          case rel =>
            rw [e1, e2]
            exact ⟨i + 1, PH, 1 - t / 4294967296, _, by omega, hPH, by omega, by go_num, rfl, rfl, HPUT.out.1, HOO.out, HVV.out, hbs.trans HPUT.out.2, hst, hC0, hdr⟩
          case measure => simp [intOf] <;> omega
        · obtain rfl : i = n + 1 := by omega
          have hc0 : cc = 0 := hC.out (by omega)
          subst hc0
          have hE' : Hid (val y + 4294967296 ^ j * (q * val v) = val x + 4294967296 ^ (n + 1 + j) * bo) := Lib.hid (by
            have := hE.out
            rw [List.take_of_length_le (by rw [HNN.out]; omega), Nat.zero_add] at this; exact this)
          have hzy : Hid (val (y.drop (j + n + 1)) = 0) := Lib.hid (by
            have := hD.out
            rw [show n + 1 + j = j + n + 1 by omega] at this
            rw [this]; exact hzz.out)
          have HYL := Lib.hid hY.1
          have HYLim := Lib.hid hY.2.1
          have hcell := hO.cell (j := j) (by omega)
          have hfree := hO.free j
          clear hE hC hD
          have hbo' : bo = 0 ∨ bo = 1 := by omega
          rcases hbo' with rfl | rfl
          · have hE2 : Hid (val y + 4294967296 ^ j * (q * val v) = val x) := Lib.hid (by have := hE'.out; rw [Nat.mul_zero, Nat.add_zero] at this; exact this)
            have hlt := long_sub HYLim.out HXLim.out (by rw [HYL.out, HXL.out]) (by rw [HXL.out]; omega) hE2.out hq.out.2.1
            have HLT2 := Lib.hid hlt
            have hdg := long_digit (o := o) (by rw [hO.1]; omega) hP.out hE2.out
            have HDG := Lib.hid hdg
            have HPUT := Lib.hid (hO.put j q hql)
            have HYY : Hid (OwnNat (wr.setCell ⟨w.heap.size, j, none⟩ (.int .u32 (q : Int))) B g L c y) := Lib.hid (hY.other (by omega))
            have HVV : Hid (NatAt (wr.setCell ⟨w.heap.size, j, none⟩ (.int .u32 (q : Int))) (.slice p2 n c2) v) := Lib.hid (hv.put HG2.out)
            clear hlt hdg hY hO hv hE'
            go_wp2_with fail
            go_roundw
            case rel => exact ⟨j, y, o.set j q, by omega, by go_num, HYY.out, HPUT.out.1, HVV.out, hbs.trans (HPUT.out.2.mono hB), HDG, HLT2⟩
            case measure => simp [intOf] <;> omega
          · have hE1 : Hid (val y + 4294967296 ^ j * (q * val v) = val x + 4294967296 ^ (n + 1 + j)) := Lib.hid (by have := hE'.out; rw [Nat.mul_one] at this; exact this)
            have hbr := Lib.hid (long_borrow HYLim.out HXLim.out (by rw [HYL.out, HXL.out]) (by rw [HXL.out]; omega) hzy.out hE1.out)
            have hq1 : 1 ≤ q := by
              rcases Nat.eq_zero_or_pos q with h | h
              · have := hbr.out.1; rw [h, Nat.zero_mul] at this; omega
              · exact h
            obtain ⟨q1, hq1'⟩ : ∃ q1, q - 1 = q1 := ⟨_, rfl⟩
            have hq1i : (q : Int) - 1 = (q1 : Int) := by omega
            have hq1l : q1 < 4294967296 := by omega
            have HQ1 := Lib.hid hq1'
            have HY := Lib.hid hY
            have HO := Lib.hid hO
            have HVV := Lib.hid hv
            clear hY hO hv hE' hq1' hcell hfree
            go_wp2_with fail
            go_loopw [10, 80] (fun cv iv ws => ∃ i cc : Nat, ∃ z : List Nat, i ≤ n + 1 ∧ cc ≤ 1 ∧ iv = .int .i64 i ∧ cv = .int .u64 cc ∧ OwnNat ws B g L c z ∧ OwnNat ws w.heap.size w.heap.size m m o ∧ NatAt ws (.slice p2 n c2) v ∧ Below B w ws ∧
                Hid (val z + 4294967296 ^ (i + j) * cc = val y + 4294967296 ^ j * val (v.take i)) ∧ Hid (z.drop (i + j) = y.drop (i + j))) (fun _ iv _ => n + 1 - (intOf iv).toNat)
            case atStart => exact ⟨0, 0, y, by omega, by omega, rfl, rfl, HY.out, HO.out, HVV.out, hbs, Lib.hid (by simp [val]), Lib.hid rfl⟩
            case round =>
              obtain ⟨i, cc, z, hi, hcc, rfl, rfl, hZ, hO, hv, hbz, hE, hD⟩ := hrel
              by_cases hin : i < n + 1
              · have hVi := HVL.out.nth i
                have hZi := hZ.2.1.nth (i + j)
                obtain ⟨t, ht⟩ : ∃ t, nth z (i + j) + nth v i + cc = t := ⟨_, rfl⟩
                have hst : Hid (val (z.set (i + j) (t % 4294967296)) + 4294967296 ^ (i + 1 + j) * (t / 4294967296) = val y + 4294967296 ^ j * val (v.take (i + 1))) := Lib.hid (addb_step (by rw [hZ.1]; omega) ht.symm hE.out)
                have hdr : Hid ((z.set (i + j) (t % 4294967296)).drop (i + 1 + j) = y.drop (i + 1 + j)) := Lib.hid (drop_step hD.out)
                have hcell := hZ.cell (j := i + j) (by omega)
                have hfree := hZ.free (i + j)
                have w1 : IntKind.i64.wrap ((i : Int) + (j : Int)) = ((i + j : Nat) : Int) := by rw [IntWalk.i64_in _ (by omega)]; omega
                have w2 : IntKind.u64.wrap ((nth z (i + j) : Int) + (nth v i : Int)) = (nth z (i + j) : Int) + (nth v i : Int) := IntWalk.u64_in _ (by omega)
                have w3 : IntKind.u64.wrap ((nth z (i + j) : Int) + (nth v i : Int) + (cc : Int)) = (t : Int) := by rw [IntWalk.u64_in _ (by omega)]; omega
                have HZ := Lib.hid hZ
                have HO := Lib.hid hO
                have HVV := Lib.hid hv
                have HT := Lib.hid ht
                clear hZ hO hv hE hD ht
                go_wp2_with fail
                go_quiet ((go_at_call 43; exact Calls.quiet_of_same (quiet_limb HVV.out)))
                go_wp2_with fail
                have hZ2 := HZ.out.keep (below_drewN (Below.refl _ _) nq)
                have HPUT := Lib.hid (hZ2.put (i + j) (t % 4294967296) (Nat.mod_lt _ (by omega)))
                have HOO : Hid (OwnNat ((wr.drewN nq).setCell ⟨g, i + j, none⟩ (.int .u32 ((t % 4294967296 : Nat) : Int))) w.heap.size w.heap.size m m o) := Lib.hid ((HO.out.keep (below_drewN (Below.refl _ _) nq)).other (by omega))
                have HVW : Hid (NatAt ((wr.drewN nq).setCell ⟨g, i + j, none⟩ (.int .u32 ((t % 4294967296 : Nat) : Int))) (.slice p2 n c2) v) := Lib.hid ((HVV.out.keep (below_drewN (Below.refl _ _) nq)).put HG.out)
                have htl := HT.out
                clear hZ2
                go_roundw
                case rel => exact ⟨i + 1, t / 4294967296, _, by omega, by omega, by go_num, rfl, HPUT.out.1, HOO.out, HVW.out, (below_drewN hbz nq).trans HPUT.out.2, hst, hdr⟩
                case measure => simp [intOf] <;> omega
              · obtain rfl : i = n + 1 := by omega
                have hE' : Hid (val z + 4294967296 ^ (n + 1 + j) * cc = val y + 4294967296 ^ j * val v) := Lib.hid (by
                  have := hE.out
                  rw [List.take_of_length_le (by rw [HNN.out]; omega)] at this; exact this)
                have hzz2 : Hid (val (z.drop (j + n + 1)) = 0) := Lib.hid (by
                  have := hD.out
                  rw [show n + 1 + j = j + n + 1 by omega] at this
                  rw [this]; exact hzy.out)
                have hbk := long_back hZ.2.1 HYLim.out (by rw [HYL.out, HXL.out]) (by rw [hZ.1, HXL.out]) (by rw [HXL.out]; omega) hzz2.out hbr.out hE1.out hq.out.2.2 hcc hE'.out
                rw [HQ1.out] at hbk
                have HBK := Lib.hid hbk
                have HDG := Lib.hid (long_digit (o := o) (by rw [hO.1]; omega) hP.out hbk.2.1)
                have hcell := hO.cell (j := j) (by omega)
                have hfree := hO.free j
                have HPUT := Lib.hid (hO.put j q1 hq1l)
                have HZZ : Hid (OwnNat (wr.setCell ⟨w.heap.size, j, none⟩ (.int .u32 (q1 : Int))) B g L c z) := Lib.hid (hZ.other (by omega))
                have HVW : Hid (NatAt (wr.setCell ⟨w.heap.size, j, none⟩ (.int .u32 (q1 : Int))) (.slice p2 n c2) v) := Lib.hid (hv.put HG2.out)
                clear hZ hO hv hE hD hbk hin hE'
                go_wp2_with fail
                go_roundw
                case rel => exact ⟨j, z, o.set j q1, by omega, by go_num, HZZ.out, HPUT.out.1, HVW.out, hbz.trans (HPUT.out.2.mono hB), HDG, Lib.hid HBK.out.2.2⟩
                case measure => simp [intOf] <;> omega
    · obtain rfl : k = 0 := by omega
      have hF : Hid (val o * val v + val x = val u ∧ val x < val v ∧ o.length ≤ L) := Lib.hid (by
        have h1 := hP.out
        have h2 := hR.out
        rw [List.drop_zero, Nat.pow_zero, Nat.mul_one] at h1
        rw [List.drop_zero] at h2
        exact ⟨h1, h2, by rw [hO.1]; have := HLm.out; omega⟩)
      have HX := Lib.hid hX
      have HO := Lib.hid hO
      clear hX hO hv hP hR
      go_wp2_with fail
      go_ret
      exact ⟨_, o, x, rfl, HO.out.read, HX.out, hF, hbel⟩

end Go.Proofs.YteobjelenfjifaaDoor
