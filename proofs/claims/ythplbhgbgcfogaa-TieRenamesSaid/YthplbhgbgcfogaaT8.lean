/- Those with the least votes in a round: tie.extremes and the reference's extreme. -/
import Derived.Test.YthplbhgbgcfogaaT7
import Derived.Test.YthplbhgbgcfogaaM4
import Derived.Deep.RegionHeld3
namespace Go.Proofs.Ythplbhgbgcfogaa
open Go.RowKit Go.Proofs.Kit Go.Proofs.Nums

theorem RatsAt.shs {w : World} {v : Value} {l : List Q} (h : RatsAt w v l) : Shs l := by
  intro q hq
  obtain ⟨i, hi, he⟩ := List.mem_iff_getElem.1 hq
  obtain ⟨b, off, cap, cs, hv, h1, h2, h3, h4, h5⟩ := SliceOf.at_ (by decide) h hi
  obtain ⟨p1, l1, k1, p2, l2, k2, _, g1, g2⟩ := h4
  rw [he] at g2
  exact g2
/-- A row of one's own, cut to nothing, is one's own. -/
theorem own_cut {w : World} {base : Nat} {e : TypeId} {p : Option Addr} {n c : Nat} {xs : List Value} (h : w.ownsRow base e 1 (.slice p n c) n xs) : w.ownsRow base e 1 (.slice p 0 c) 0 [] := by
  refine ⟨rfl, ?_⟩
  rcases h.2 with ⟨hv, hn⟩ | ⟨g, cap, cur, hv, hg, hgg, hc, hm, hs, ht⟩
  · simp only [Value.slice.injEq] at hv
    obtain ⟨rfl, _, rfl⟩ := hv
    exact .inl ⟨rfl, rfl⟩
  · simp only [Value.slice.injEq] at hv
    obtain ⟨rfl, _, rfl⟩ := hv
    exact .inr ⟨g, _, cur, rfl, hg, hgg, Nat.zero_le _, hm, hs, by simp⟩
theorem own_shape {w : World} {base : Nat} {e : TypeId} {v : Value} {m : Nat} {xs : List Value} (h : w.ownsRow base e 1 v m xs) : ∃ p c, v = .slice p m c ∧ m ≤ c ∧ c ≤ 9223372036854775807 := by
  rcases h.2 with ⟨h1, h2⟩ | ⟨g, cap, cur, h1, hg, hgg, hc, hm, _⟩
  · subst h2; exact ⟨_, _, h1, Nat.le_refl _, by omega⟩
  · exact ⟨_, _, h1, hc, by unfold maxLen at hm; omega⟩

set_option maxRecDepth 100000 in
set_option maxHeartbeats 16000000 in
theorem extremes_true {vv vl : Value} {v : List Q} {l : List Int} {w : World} (hv : RatsAt w vv v) (hl : IntsAt w vl l) (hr : ∀ x ∈ l, 0 ≤ x ∧ x < 1000) (hln : l.length ≤ 1000) :
    Calls Try.prog 27 #[vl, vv, .bool true] w fun e w' => ∃ v', e = .returned v' ∧ IntsAt w' v' (extA (ltV v true) l) ∧ Below w.heap.size w w' := by
  have SW := Lib.hid (ltV_swo hv.shs true)
  have SH := Lib.hid hv.shs
  have HV := Lib.hid hv
  have HL := Lib.hid hl
  have HR := Lib.hid hr
  obtain ⟨p, c, rfl⟩ := hl.shape
  obtain ⟨p', c', rfl⟩ := hv.shp
  obtain ⟨len, hlen⟩ : ∃ n, l.length = n := ⟨_, rfl⟩
  obtain ⟨nv, hnv⟩ : ∃ n, v.length = n := ⟨_, rfl⟩
  have HN := Lib.hid hlen
  rw [hlen] at hln HL ⊢
  rw [hnv] at HV ⊢
  clear hv hl hr hlen hnv
  go_enter Try.func27, Try.ntmps27
  go_wp2_with fail
  go_loopw [7, 13] (fun ov iv wr => ∃ k m : Nat, ∃ o : List Int, k ≤ len ∧ m ≤ k ∧ iv = .int .i64 k ∧ wr.ownsRow w.heap.size 3 1 ov m (o.map (Value.int .i64)) ∧ Below w.heap.size w wr ∧ Hid (o = extA (ltV v true) (l.take k))) (fun _ iv _ => len - (intOf iv).toNat)
  case atStart => exact ⟨0, 0, [], by omega, by omega, rfl, World.ownsRow_nil _ _ _ _, Below.refl _ _, Lib.hid rfl⟩
  case round =>
    obtain ⟨k, m, o, hk, hm, rfl, hown, hbel, hP⟩ := hrel
    have hol : o.length = m := by
      have h1 := hown.1
      rw [List.length_map] at h1
      omega
    have HI := Lib.hid (ints_owned hown)
    obtain ⟨p1, c1, rfl, hmc, hcm⟩ := own_shape hown
    by_cases hlt : k < len
    · have hltz : (k : Int) < (len : Int) := by omega
      obtain ⟨bb, off, hp0, hc1, hc2, hcell⟩ := (HL.out.keep hbel).cellAt k (by rw [HN.out]; exact hlt)
      subst hp0
      have hmem := HR.out (l.getD k 0) (mem_getD (by rw [HN.out]; exact hlt) rfl)
      have hts := take_snoc_i (l := l) (k := k) (by rw [HN.out]; exact hlt)
      obtain ⟨y, hy⟩ : ∃ y, l.getD k 0 = y := ⟨_, rfl⟩
      rw [hy] at hcell hts hmem
      obtain ⟨cn, hcn⟩ : ∃ j : Nat, y = j := ⟨y.toNat, by omega⟩
      subst hcn
      have HS : Hid (extA (ltV v true) (l.take (k + 1)) = exStep (ltV v true) o cn) := Lib.hid (by rw [hts, extA_snoc SW.out, hP.out])
      have hcl : cn < 1000 := by omega
      clear hy hts hmem
      cases o with
      | nil =>
        obtain rfl : m = 0 := by rw [← hol]; rfl
        have HX : Hid ([(cn : Int)] = extA (ltV v true) (l.take (k + 1))) := Lib.hid (by rw [HS.out]; rfl)
        go_wp2_with (at_builtin; go_must (refine append_one erI rfl rfl hown rfl rfl rfl (by simp [Value.oneCell']) (by omega) (by omega) hbel.size ?_); intro v' w1 hown1 _ hb1 hne1)
        go_roundw
        case rel => exact ⟨k + 1, 1, [(cn : Int)], by omega, by omega, by go_num, hown1, hbel.trans hb1, HX⟩
        case measure => simp [intOf] <;> omega
      | cons b t =>
        have hm0 : 0 < m := by rw [← hol]; simp
        have hm0z : (0 : Int) < (m : Int) := by omega
        have hbm : b ∈ l := by
          have : b ∈ extA (ltV v true) (l.take k) := by rw [← hP.out]; simp
          exact List.mem_of_mem_take (mem_extA.1 this).1
        have hbr := HR.out b hbm
        obtain ⟨bn, hbn⟩ : ∃ j : Nat, b = j := ⟨b.toNat, by omega⟩
        subst hbn
        have hbl : bn < 1000 := by omega
        rw [← hol] at HI
        obtain ⟨gb, goff, hp1, _, _, hcell0⟩ := HI.out.cellAt 0 (by simp)
        subst hp1
        rw [hol] at HI
        have hcell0 : wr.cell? ⟨gb, goff, none⟩ = some (.int .i64 bn) := hcell0
        have hbD := hbel.drew
        obtain ⟨qc, hqc⟩ : ∃ q, vote v cn = q := ⟨_, rfl⟩
        obtain ⟨qb, hqb⟩ : ∃ q, vote v bn = q := ⟨_, rfl⟩
        have VC : Hid (∀ w', Below w.heap.size w w' → Calls Try.prog 43 #[.slice p' nv c', .int .i64 cn] w' (GivesS qc w')) := Lib.hid (fun w' hb => by
          rw [← hqc]; exact votesOf_c (HV.out.keep hb) cn hcl)
        have VB : Hid (∀ w', Below w.heap.size w w' → Calls Try.prog 43 #[.slice p' nv c', .int .i64 bn] w' (GivesS qb w')) := Lib.hid (fun w' hb => by
          rw [← hqb]; exact votesOf_c (HV.out.keep hb) bn hbl)
        obtain ⟨z, hz, HZ⟩ := ordS (v := v) true cn bn
        rw [hqc, hqb] at hz
        obtain ⟨z0, hz0⟩ : ∃ z, cmpS qc qb = z := ⟨_, rfl⟩
        rw [hz0] at hz
        have CM : Hid (∀ w' v1 v2, RatN w' v1 qc 2 → RatN w' v2 qb 2 → Calls Try.prog 42 #[v1, v2] w' fun e w'' => e = .returned (.int .i64 z0) ∧ Below w'.heap.size w' w'') := Lib.hid (fun w' v1 v2 h1 h2 => by
          have := cmp_r h1.at h2.at (by omega) (by omega)
          rw [Q.cmp_sh (by rw [← hqc]; exact vote_sh SH.out _) (by rw [← hqb]; exact vote_sh SH.out _), hz0] at this
          exact this)
        have HZ : Hid ((z0 = -1 ∧ ltV v true cn bn = true) ∨ (z0 = 1 ∧ ltV v true cn bn = false ∧ ltV v true bn cn = true) ∨ (z0 = 0 ∧ ltV v true cn bn = false ∧ ltV v true bn cn = false)) := Lib.hid (by
          have e : z0 = z := by rw [← hz]; rfl
          rw [e]; exact HZ)
        have S0 : Hid (wr.drew.cell? ⟨gb, goff, none⟩ = some (.int .i64 bn)) := Lib.hid hcell0
        clear hqc hqb hz hz0 hbm hbr
        go_wp2_with fail
        go_region_held3 (fun w' => w'.cell? ⟨gb, goff, none⟩ = some (.int .i64 bn))
          (first | exact S3.out | exact S2.out | exact S1.out | exact S0.out)
          (first
          | (go_at_call 43; ((with_reducible refine (VC.out _ hbD).mono ?_); rintro e w1 ⟨q1, i1, j1, q2, i2, j2, rfl, hvc, _, hbc⟩; have BC := bel2' hbD hbc; have S1 := Lib.hid (cell_keep hbc S0.out)))
          | (go_at_call 43; ((with_reducible refine (VB.out _ hbD).mono ?_); rintro e w1 ⟨q3, i3, j3, q4, i4, j4, rfl, hvb, _, hbb⟩; have BB := bel2' hbD hbb; have S1 := Lib.hid (cell_keep hbb S0.out)))
          | (go_at_call 43; ((with_reducible refine (VC.out _ BB).mono ?_); rintro e w2 ⟨q1, i1, j1, q2, i2, j2, rfl, hvc, _, hbc⟩; have B2 := bel2' BB hbc; have hvb := hvb.keep hbc; have S2 := Lib.hid (cell_keep hbc S1.out)))
          | (go_at_call 43; ((with_reducible refine (VB.out _ BC).mono ?_); rintro e w2 ⟨q3, i3, j3, q4, i4, j4, rfl, hvb, _, hbb⟩; have B2 := bel2' BC hbb; have hvc := hvc.keep hbb; have S2 := Lib.hid (cell_keep hbb S1.out)))
          | (go_at_call 42; ((with_reducible refine (CM.out _ _ _ hvc hvb).mono ?_); rintro e w3 ⟨rfl, hb3⟩; have B3 := bel2' B2 hb3; have hB13 := hb3; have S3 := Lib.hid (cell_keep hb3 S2.out))))
        all_goals
          first | (have hbw := bel2' ((Below.refl wr.heap.size wr).drew) (bel2' (bel2' hbc hbb) hb3)) | (have hbw := bel2' ((Below.refl wr.heap.size wr).drew) (bel2' (bel2' hbb hbc) hb3))
          have hown := ownsRow_below hown hbw
          rcases HZ.out with ⟨hz, h1⟩ | ⟨hz, h1, h2⟩ | ⟨hz, h1, h2⟩
          · obtain rfl : z0 = -1 := by omega
            have HX : Hid ([(cn : Int)] = extA (ltV v true) (l.take (k + 1))) := Lib.hid (by rw [HS.out]; simp only [exStep]; rw [if_pos h1])
            clear h1 hz
            have hown0 := own_cut hown
            go_wp2_with (at_builtin; go_must (refine append_one erI rfl rfl hown0 rfl rfl rfl (by simp [Value.oneCell']) (by omega) (by omega) B3.size ?_); intro v' w4 hown1 _ hb1 hne1)
            go_roundw
            case rel => exact ⟨k + 1, 1, [(cn : Int)], by omega, by omega, by go_num, hown1, B3.trans hb1, HX⟩
            case measure => simp [intOf] <;> omega
          · obtain rfl : z0 = 1 := by omega
            have HX : Hid ((bn : Int) :: t = extA (ltV v true) (l.take (k + 1))) := Lib.hid (by rw [HS.out]; simp only [exStep]; rw [if_neg (by rw [h1]; decide), if_pos h2])
            clear h1 h2 hz
            go_wp2_with fail
            go_roundw
            case rel => exact ⟨k + 1, m, _, by omega, by omega, by go_num, hown, B3, HX⟩
            case measure => simp [intOf] <;> omega
          · obtain rfl : z0 = 0 := by omega
            have HX : Hid ((bn : Int) :: t ++ [(cn : Int)] = extA (ltV v true) (l.take (k + 1))) := Lib.hid (by rw [HS.out]; simp only [exStep]; rw [if_neg (by rw [h1]; decide), if_neg (by rw [h2]; decide)])
            clear h1 h2 hz
            go_wp2_with (at_builtin; go_must (refine append_one erI rfl rfl hown rfl rfl rfl (by simp [Value.oneCell']) (by omega) (by omega) B3.size ?_); intro v' w4 hown1 _ hb1 hne1)
            go_roundw
            case rel =>
              refine ⟨k + 1, m + 1, (bn : Int) :: t ++ [(cn : Int)], by omega, by omega, by go_num, ?_, B3.trans hb1, HX⟩
              rw [List.map_append]
              exact hown1
            case measure => simp [intOf] <;> omega
    · have hltz : ¬ (k : Int) < (len : Int) := by omega
      have HE : Hid (o = extA (ltV v true) l) := Lib.hid (by rw [hP.out, List.take_of_length_le (by rw [HN.out]; omega)])
      clear hown
      go_wp2_with fail
      go_ret
      exact ⟨_, rfl, by rw [← HE.out]; exact HI.out, hbel⟩

set_option maxRecDepth 100000 in
set_option maxHeartbeats 16000000 in
theorem extremes_false {vv vl : Value} {v : List Q} {l : List Int} {w : World} (hv : RatsAt w vv v) (hl : IntsAt w vl l) (hr : ∀ x ∈ l, 0 ≤ x ∧ x < 1000) (hln : l.length ≤ 1000) :
    Calls Try.prog 27 #[vl, vv, .bool false] w fun e w' => ∃ v', e = .returned v' ∧ IntsAt w' v' (extA (ltV v false) l) ∧ Below w.heap.size w w' := by
  have SW := Lib.hid (ltV_swo hv.shs false)
  have SH := Lib.hid hv.shs
  have HV := Lib.hid hv
  have HL := Lib.hid hl
  have HR := Lib.hid hr
  obtain ⟨p, c, rfl⟩ := hl.shape
  obtain ⟨p', c', rfl⟩ := hv.shp
  obtain ⟨len, hlen⟩ : ∃ n, l.length = n := ⟨_, rfl⟩
  obtain ⟨nv, hnv⟩ : ∃ n, v.length = n := ⟨_, rfl⟩
  have HN := Lib.hid hlen
  rw [hlen] at hln HL ⊢
  rw [hnv] at HV ⊢
  clear hv hl hr hlen hnv
  go_enter Try.func27, Try.ntmps27
  go_wp2_with fail
  go_loopw [7, 13] (fun ov iv wr => ∃ k m : Nat, ∃ o : List Int, k ≤ len ∧ m ≤ k ∧ iv = .int .i64 k ∧ wr.ownsRow w.heap.size 3 1 ov m (o.map (Value.int .i64)) ∧ Below w.heap.size w wr ∧ Hid (o = extA (ltV v false) (l.take k))) (fun _ iv _ => len - (intOf iv).toNat)
  case atStart => exact ⟨0, 0, [], by omega, by omega, rfl, World.ownsRow_nil _ _ _ _, Below.refl _ _, Lib.hid rfl⟩
  case round =>
    obtain ⟨k, m, o, hk, hm, rfl, hown, hbel, hP⟩ := hrel
    have hol : o.length = m := by
      have h1 := hown.1
      rw [List.length_map] at h1
      omega
    have HI := Lib.hid (ints_owned hown)
    obtain ⟨p1, c1, rfl, hmc, hcm⟩ := own_shape hown
    by_cases hlt : k < len
    · have hltz : (k : Int) < (len : Int) := by omega
      obtain ⟨bb, off, hp0, hc1, hc2, hcell⟩ := (HL.out.keep hbel).cellAt k (by rw [HN.out]; exact hlt)
      subst hp0
      have hmem := HR.out (l.getD k 0) (mem_getD (by rw [HN.out]; exact hlt) rfl)
      have hts := take_snoc_i (l := l) (k := k) (by rw [HN.out]; exact hlt)
      obtain ⟨y, hy⟩ : ∃ y, l.getD k 0 = y := ⟨_, rfl⟩
      rw [hy] at hcell hts hmem
      obtain ⟨cn, hcn⟩ : ∃ j : Nat, y = j := ⟨y.toNat, by omega⟩
      subst hcn
      have HS : Hid (extA (ltV v false) (l.take (k + 1)) = exStep (ltV v false) o cn) := Lib.hid (by rw [hts, extA_snoc SW.out, hP.out])
      have hcl : cn < 1000 := by omega
      clear hy hts hmem
      cases o with
      | nil =>
        obtain rfl : m = 0 := by rw [← hol]; rfl
        have HX : Hid ([(cn : Int)] = extA (ltV v false) (l.take (k + 1))) := Lib.hid (by rw [HS.out]; rfl)
        go_wp2_with (at_builtin; go_must (refine append_one erI rfl rfl hown rfl rfl rfl (by simp [Value.oneCell']) (by omega) (by omega) hbel.size ?_); intro v' w1 hown1 _ hb1 hne1)
        go_roundw
        case rel => exact ⟨k + 1, 1, [(cn : Int)], by omega, by omega, by go_num, hown1, hbel.trans hb1, HX⟩
        case measure => simp [intOf] <;> omega
      | cons b t =>
        have hm0 : 0 < m := by rw [← hol]; simp
        have hm0z : (0 : Int) < (m : Int) := by omega
        have hbm : b ∈ l := by
          have : b ∈ extA (ltV v false) (l.take k) := by rw [← hP.out]; simp
          exact List.mem_of_mem_take (mem_extA.1 this).1
        have hbr := HR.out b hbm
        obtain ⟨bn, hbn⟩ : ∃ j : Nat, b = j := ⟨b.toNat, by omega⟩
        subst hbn
        have hbl : bn < 1000 := by omega
        rw [← hol] at HI
        obtain ⟨gb, goff, hp1, _, _, hcell0⟩ := HI.out.cellAt 0 (by simp)
        subst hp1
        rw [hol] at HI
        have hcell0 : wr.cell? ⟨gb, goff, none⟩ = some (.int .i64 bn) := hcell0
        have hbD := hbel.drew
        obtain ⟨qc, hqc⟩ : ∃ q, vote v cn = q := ⟨_, rfl⟩
        obtain ⟨qb, hqb⟩ : ∃ q, vote v bn = q := ⟨_, rfl⟩
        have VC : Hid (∀ w', Below w.heap.size w w' → Calls Try.prog 43 #[.slice p' nv c', .int .i64 cn] w' (GivesS qc w')) := Lib.hid (fun w' hb => by
          rw [← hqc]; exact votesOf_c (HV.out.keep hb) cn hcl)
        have VB : Hid (∀ w', Below w.heap.size w w' → Calls Try.prog 43 #[.slice p' nv c', .int .i64 bn] w' (GivesS qb w')) := Lib.hid (fun w' hb => by
          rw [← hqb]; exact votesOf_c (HV.out.keep hb) bn hbl)
        obtain ⟨z, hz, HZ⟩ := ordS (v := v) false cn bn
        rw [hqc, hqb] at hz
        obtain ⟨z0, hz0⟩ : ∃ z, cmpS qc qb = z := ⟨_, rfl⟩
        rw [hz0] at hz
        have CM : Hid (∀ w' v1 v2, RatN w' v1 qc 2 → RatN w' v2 qb 2 → Calls Try.prog 42 #[v1, v2] w' fun e w'' => e = .returned (.int .i64 z0) ∧ Below w'.heap.size w' w'') := Lib.hid (fun w' v1 v2 h1 h2 => by
          have := cmp_r h1.at h2.at (by omega) (by omega)
          rw [Q.cmp_sh (by rw [← hqc]; exact vote_sh SH.out _) (by rw [← hqb]; exact vote_sh SH.out _), hz0] at this
          exact this)
        have HZ : Hid (((-z0) = -1 ∧ ltV v false cn bn = true) ∨ ((-z0) = 1 ∧ ltV v false cn bn = false ∧ ltV v false bn cn = true) ∨ ((-z0) = 0 ∧ ltV v false cn bn = false ∧ ltV v false bn cn = false)) := Lib.hid (by
          have e : (-z0) = z := by rw [← hz]; rfl
          rw [e]; exact HZ)
        have S0 : Hid (wr.drew.cell? ⟨gb, goff, none⟩ = some (.int .i64 bn)) := Lib.hid hcell0
        clear hqc hqb hz hz0 hbm hbr
        go_wp2_with fail
        go_region_held3 (fun w' => w'.cell? ⟨gb, goff, none⟩ = some (.int .i64 bn))
          (first | exact S3.out | exact S2.out | exact S1.out | exact S0.out)
          (first
          | (go_at_call 43; ((with_reducible refine (VC.out _ hbD).mono ?_); rintro e w1 ⟨q1, i1, j1, q2, i2, j2, rfl, hvc, _, hbc⟩; have BC := bel2' hbD hbc; have S1 := Lib.hid (cell_keep hbc S0.out)))
          | (go_at_call 43; ((with_reducible refine (VB.out _ hbD).mono ?_); rintro e w1 ⟨q3, i3, j3, q4, i4, j4, rfl, hvb, _, hbb⟩; have BB := bel2' hbD hbb; have S1 := Lib.hid (cell_keep hbb S0.out)))
          | (go_at_call 43; ((with_reducible refine (VC.out _ BB).mono ?_); rintro e w2 ⟨q1, i1, j1, q2, i2, j2, rfl, hvc, _, hbc⟩; have B2 := bel2' BB hbc; have hvb := hvb.keep hbc; have S2 := Lib.hid (cell_keep hbc S1.out)))
          | (go_at_call 43; ((with_reducible refine (VB.out _ BC).mono ?_); rintro e w2 ⟨q3, i3, j3, q4, i4, j4, rfl, hvb, _, hbb⟩; have B2 := bel2' BC hbb; have hvc := hvc.keep hbb; have S2 := Lib.hid (cell_keep hbb S1.out)))
          | (go_at_call 42; ((with_reducible refine (CM.out _ _ _ hvc hvb).mono ?_); rintro e w3 ⟨rfl, hb3⟩; have B3 := bel2' B2 hb3; have hB13 := hb3; have S3 := Lib.hid (cell_keep hb3 S2.out))))
        all_goals
          first | (have hbw := bel2' ((Below.refl wr.heap.size wr).drew) (bel2' (bel2' hbc hbb) hb3)) | (have hbw := bel2' ((Below.refl wr.heap.size wr).drew) (bel2' (bel2' hbb hbc) hb3))
          have hown := ownsRow_below hown hbw
          rcases HZ.out with ⟨hz, h1⟩ | ⟨hz, h1, h2⟩ | ⟨hz, h1, h2⟩
          · obtain rfl : z0 = 1 := by omega
            have HX : Hid ([(cn : Int)] = extA (ltV v false) (l.take (k + 1))) := Lib.hid (by rw [HS.out]; simp only [exStep]; rw [if_pos h1])
            clear h1 hz
            have hown0 := own_cut hown
            go_wp2_with (at_builtin; go_must (refine append_one erI rfl rfl hown0 rfl rfl rfl (by simp [Value.oneCell']) (by omega) (by omega) B3.size ?_); intro v' w4 hown1 _ hb1 hne1)
            go_roundw
            case rel => exact ⟨k + 1, 1, [(cn : Int)], by omega, by omega, by go_num, hown1, B3.trans hb1, HX⟩
            case measure => simp [intOf] <;> omega
          · obtain rfl : z0 = -1 := by omega
            have HX : Hid ((bn : Int) :: t = extA (ltV v false) (l.take (k + 1))) := Lib.hid (by rw [HS.out]; simp only [exStep]; rw [if_neg (by rw [h1]; decide), if_pos h2])
            clear h1 h2 hz
            go_wp2_with fail
            go_roundw
            case rel => exact ⟨k + 1, m, _, by omega, by omega, by go_num, hown, B3, HX⟩
            case measure => simp [intOf] <;> omega
          · obtain rfl : z0 = 0 := by omega
            have HX : Hid ((bn : Int) :: t ++ [(cn : Int)] = extA (ltV v false) (l.take (k + 1))) := Lib.hid (by rw [HS.out]; simp only [exStep]; rw [if_neg (by rw [h1]; decide), if_neg (by rw [h2]; decide)])
            clear h1 h2 hz
            go_wp2_with (at_builtin; go_must (refine append_one erI rfl rfl hown rfl rfl rfl (by simp [Value.oneCell']) (by omega) (by omega) B3.size ?_); intro v' w4 hown1 _ hb1 hne1)
            go_roundw
            case rel =>
              refine ⟨k + 1, m + 1, (bn : Int) :: t ++ [(cn : Int)], by omega, by omega, by go_num, ?_, B3.trans hb1, HX⟩
              rw [List.map_append]
              exact hown1
            case measure => simp [intOf] <;> omega
    · have hltz : ¬ (k : Int) < (len : Int) := by omega
      have HE : Hid (o = extA (ltV v false) l) := Lib.hid (by rw [hP.out, List.take_of_length_le (by rw [HN.out]; omega)])
      clear hown
      go_wp2_with fail
      go_ret
      exact ⟨_, rfl, by rw [← HE.out]; exact HI.out, hbel⟩

theorem extremes_c {vv vl : Value} {v : List Q} {l : List Int} {w : World} (hv : RatsAt w vv v) (hl : IntsAt w vl l) (hr : ∀ x ∈ l, 0 ≤ x ∧ x < 1000) (hln : l.length ≤ 1000) (least : Bool) :
    Calls Try.prog 27 #[vl, vv, .bool least] w fun e w' => ∃ v', e = .returned v' ∧ IntsAt w' v' (extA (ltV v least) l) ∧ Below w.heap.size w w' := by
  cases least
  · exact extremes_false hv hl hr hln
  · exact extremes_true hv hl hr hln

end Go.Proofs.Ythplbhgbgcfogaa
