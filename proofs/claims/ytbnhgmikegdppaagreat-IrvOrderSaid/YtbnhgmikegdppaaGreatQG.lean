/- Contracts and plain facts, part 7: T8, T9, T10, T11, T12, T8b. No condition beyond those that each theorem states. -/
import Derived.Test.YtbnhgmikegdppaaGreatQF
import Derived.Deep.RegionHeld3
import Derived.BigQuiet
/- Those with the least votes in a round: tie.extremes and the reference's extreme. -/
namespace Go.Proofs.YtbnhgmikegdppaaGreat
open Go.RowKit Go.Proofs.Kit Go.Proofs.Nums

theorem RatsAt.shs {w : World} {v : Value} {l : List Q} (h : RatsAt w v l) : Shs l := by
  intro q hq
  obtain ⟨i, hi, he⟩ := List.mem_iff_getElem.1 hq
  obtain ⟨b, off, cap, cs, hv, h1, h2, h3, h4, h5⟩ := SliceOf.at_ (by decide) h hi
  obtain ⟨p1, l1, k1, p2, l2, k2, _, g1, g2⟩ := h4
  rw [he] at g2
  exact g2
/-- A row of one's own, cut to nothing, is one's own. -/
theorem own_cut {w : World} {base : Nat} {e : TypeId} {p : Option Addr} {n c : Nat} {xs : List Value} (h : w.ownsRow base e 1 (.slice p n c) n xs) : w.ownsRow base e 1 (.slice p 0 c) 0 [] := by
  refine ⟨rfl, ?_⟩
  rcases h.2 with ⟨hv, hn⟩ | ⟨g, cap, cur, hv, hg, hgg, hc, hm, hs, ht⟩
  · simp only [Value.slice.injEq] at hv
    obtain ⟨rfl, _, rfl⟩ := hv
    exact .inl ⟨rfl, rfl⟩
  · simp only [Value.slice.injEq] at hv
    obtain ⟨rfl, _, rfl⟩ := hv
    exact .inr ⟨g, _, cur, rfl, hg, hgg, Nat.zero_le _, hm, hs, by simp⟩
theorem own_shape {w : World} {base : Nat} {e : TypeId} {v : Value} {m : Nat} {xs : List Value} (h : w.ownsRow base e 1 v m xs) : ∃ p c, v = .slice p m c ∧ m ≤ c ∧ c ≤ 9223372036854775807 := by
  rcases h.2 with ⟨h1, h2⟩ | ⟨g, cap, cur, h1, hg, hgg, hc, hm, _⟩
  · subst h2; exact ⟨_, _, h1, Nat.le_refl _, by omega⟩
  · exact ⟨_, _, h1, hc, by unfold maxLen at hm; omega⟩

set_option maxRecDepth 100000 in
set_option maxHeartbeats 16000000 in
theorem extremes_true {vv vl : Value} {v : List Q} {l : List Int} {w : World} (hv : RatsAt w vv v) (hl : IntsAt w vl l) (hr : ∀ x ∈ l, 0 ≤ x ∧ x < 1000) (hln : l.length ≤ 1000) :
    Calls Tryz.prog 73 #[vl, vv, .bool true] w fun e w' => ∃ v', e = .returned v' ∧ IntsAt w' v' (extA (ltV v true) l) ∧ Below w.heap.size w w' := by
  have SW := Lib.hid (ltV_swo hv.shs true)
  have SH := Lib.hid hv.shs
  have HV := Lib.hid hv
  have HL := Lib.hid hl
  have HR := Lib.hid hr
  obtain ⟨p, c, rfl⟩ := hl.shape
  obtain ⟨p', c', rfl⟩ := hv.shp
  obtain ⟨len, hlen⟩ : ∃ n, l.length = n := ⟨_, rfl⟩
  obtain ⟨nv, hnv⟩ : ∃ n, v.length = n := ⟨_, rfl⟩
  have HN := Lib.hid hlen
  rw [hlen] at hln HL ⊢
  rw [hnv] at HV ⊢
  clear hv hl hr hlen hnv
  go_enter Tryz.func73, Tryz.ntmps73
  go_wp2_with fail
  go_loopw [7, 13] (fun ov iv wr => ∃ k m : Nat, ∃ o : List Int, k ≤ len ∧ m ≤ k ∧ iv = .int .i64 k ∧ wr.ownsRow w.heap.size 3 1 ov m (o.map (Value.int .i64)) ∧ Below w.heap.size w wr ∧ Hid (o = extA (ltV v true) (l.take k))) (fun _ iv _ => len - (intOf iv).toNat)
  case atStart => exact ⟨0, 0, [], by omega, by omega, rfl, World.ownsRow_nil _ _ _ _, Below.refl _ _, Lib.hid rfl⟩
  case round =>
    obtain ⟨k, m, o, hk, hm, rfl, hown, hbel, hP⟩ := hrel
    have hol : o.length = m := by
      have h1 := hown.1
      rw [List.length_map] at h1
      omega
    have HI := Lib.hid (ints_owned hown)
    obtain ⟨p1, c1, rfl, hmc, hcm⟩ := own_shape hown
    by_cases hlt : k < len
    · have hltz : (k : Int) < (len : Int) := by omega
      obtain ⟨bb, off, hp0, hc1, hc2, hcell⟩ := (HL.out.keep hbel).cellAt k (by rw [HN.out]; exact hlt)
      subst hp0
      have hmem := HR.out (l.getD k 0) (mem_getD (by rw [HN.out]; exact hlt) rfl)
      have hts := take_snoc_i (l := l) (k := k) (by rw [HN.out]; exact hlt)
      obtain ⟨y, hy⟩ : ∃ y, l.getD k 0 = y := ⟨_, rfl⟩
      rw [hy] at hcell hts hmem
      obtain ⟨cn, hcn⟩ : ∃ j : Nat, y = j := ⟨y.toNat, by omega⟩
      subst hcn
      have HS : Hid (extA (ltV v true) (l.take (k + 1)) = exStep (ltV v true) o cn) := Lib.hid (by rw [hts, extA_snoc SW.out, hP.out])
      have hcl : cn < 1000 := by omega
      clear hy hts hmem
      cases o with
      | nil =>
        obtain rfl : m = 0 := by rw [← hol]; rfl
        have HX : Hid ([(cn : Int)] = extA (ltV v true) (l.take (k + 1))) := Lib.hid (by rw [HS.out]; rfl)
        go_wp2_with (at_builtin; go_must (refine append_one erI rfl rfl hown rfl rfl rfl (by simp [Value.oneCell']) (by omega) (by omega) hbel.size ?_); intro v' w1 hown1 _ hb1 hne1)
        go_roundw
        case rel => exact ⟨k + 1, 1, [(cn : Int)], by omega, by omega, by go_num, hown1, hbel.trans hb1, HX⟩
        case measure => simp [intOf] <;> omega
      | cons b t =>
        have hm0 : 0 < m := by rw [← hol]; simp
        have hm0z : (0 : Int) < (m : Int) := by omega
        have hbm : b ∈ l := by
          have : b ∈ extA (ltV v true) (l.take k) := by rw [← hP.out]; simp
          exact List.mem_of_mem_take (mem_extA.1 this).1
        have hbr := HR.out b hbm
        obtain ⟨bn, hbn⟩ : ∃ j : Nat, b = j := ⟨b.toNat, by omega⟩
        subst hbn
        have hbl : bn < 1000 := by omega
        rw [← hol] at HI
        obtain ⟨gb, goff, hp1, _, _, hcell0⟩ := HI.out.cellAt 0 (by simp)
        subst hp1
        rw [hol] at HI
        have hcell0 : wr.cell? ⟨gb, goff, none⟩ = some (.int .i64 bn) := hcell0
        have hbD := hbel.drew
        obtain ⟨qc, hqc⟩ : ∃ q, vote v cn = q := ⟨_, rfl⟩
        obtain ⟨qb, hqb⟩ : ∃ q, vote v bn = q := ⟨_, rfl⟩
        have VC : Hid (∀ w', Below w.heap.size w w' → Calls Tryz.prog 90 #[.slice p' nv c', .int .i64 cn] w' (GivesS qc w')) := Lib.hid (fun w' hb => by
          rw [← hqc]; exact votesOf_c (HV.out.keep hb) cn hcl)
        have VB : Hid (∀ w', Below w.heap.size w w' → Calls Tryz.prog 90 #[.slice p' nv c', .int .i64 bn] w' (GivesS qb w')) := Lib.hid (fun w' hb => by
          rw [← hqb]; exact votesOf_c (HV.out.keep hb) bn hbl)
        obtain ⟨z, hz, HZ⟩ := ordS (v := v) true cn bn
        rw [hqc, hqb] at hz
        obtain ⟨z0, hz0⟩ : ∃ z, cmpS qc qb = z := ⟨_, rfl⟩
        rw [hz0] at hz
        have CM : Hid (∀ w' v1 v2, RatN w' v1 qc 2 → RatN w' v2 qb 2 → Calls Tryz.prog 89 #[v1, v2] w' fun e w'' => e = .returned (.int .i64 z0) ∧ Below w'.heap.size w' w'') := Lib.hid (fun w' v1 v2 h1 h2 => by
          have := cmp_r h1.at h2.at (by omega) (by omega)
          rw [Q.cmp_sh (by rw [← hqc]; exact vote_sh SH.out _) (by rw [← hqb]; exact vote_sh SH.out _), hz0] at this
          exact this)
        have HZ : Hid ((z0 = -1 ∧ ltV v true cn bn = true) ∨ (z0 = 1 ∧ ltV v true cn bn = false ∧ ltV v true bn cn = true) ∨ (z0 = 0 ∧ ltV v true cn bn = false ∧ ltV v true bn cn = false)) := Lib.hid (by
          have e : z0 = z := by rw [← hz]; rfl
          rw [e]; exact HZ)
        have S0 : Hid (wr.drew.cell? ⟨gb, goff, none⟩ = some (.int .i64 bn)) := Lib.hid hcell0
        clear hqc hqb hz hz0 hbm hbr
        go_wp2_with fail
        go_region_held3 (fun w' => w'.cell? ⟨gb, goff, none⟩ = some (.int .i64 bn))
          (first | exact S3.out | exact S2.out | exact S1.out | exact S0.out)
          (first
          | (go_at_call 90; ((with_reducible refine (VC.out _ hbD).mono ?_); rintro e w1 ⟨q1, i1, j1, q2, i2, j2, rfl, hvc, _, hbc⟩; have BC := bel2' hbD hbc; have S1 := Lib.hid (cell_keep hbc S0.out)))
          | (go_at_call 90; ((with_reducible refine (VB.out _ hbD).mono ?_); rintro e w1 ⟨q3, i3, j3, q4, i4, j4, rfl, hvb, _, hbb⟩; have BB := bel2' hbD hbb; have S1 := Lib.hid (cell_keep hbb S0.out)))
          | (go_at_call 90; ((with_reducible refine (VC.out _ BB).mono ?_); rintro e w2 ⟨q1, i1, j1, q2, i2, j2, rfl, hvc, _, hbc⟩; have B2 := bel2' BB hbc; have hvb := hvb.keep hbc; have S2 := Lib.hid (cell_keep hbc S1.out)))
          | (go_at_call 90; ((with_reducible refine (VB.out _ BC).mono ?_); rintro e w2 ⟨q3, i3, j3, q4, i4, j4, rfl, hvb, _, hbb⟩; have B2 := bel2' BC hbb; have hvc := hvc.keep hbb; have S2 := Lib.hid (cell_keep hbb S1.out)))
          | (go_at_call 89; ((with_reducible refine (CM.out _ _ _ hvc hvb).mono ?_); rintro e w3 ⟨rfl, hb3⟩; have B3 := bel2' B2 hb3; have hB13 := hb3; have S3 := Lib.hid (cell_keep hb3 S2.out))))
        all_goals
          first | (have hbw := bel2' ((Below.refl wr.heap.size wr).drew) (bel2' (bel2' hbc hbb) hb3)) | (have hbw := bel2' ((Below.refl wr.heap.size wr).drew) (bel2' (bel2' hbb hbc) hb3))
          have hown := ownsRow_below hown hbw
          rcases HZ.out with ⟨hz, h1⟩ | ⟨hz, h1, h2⟩ | ⟨hz, h1, h2⟩
          · obtain rfl : z0 = -1 := by omega
            have HX : Hid ([(cn : Int)] = extA (ltV v true) (l.take (k + 1))) := Lib.hid (by rw [HS.out]; simp only [exStep]; rw [if_pos h1])
            clear h1 hz
            have hown0 := own_cut hown
            go_wp2_with (at_builtin; go_must (refine append_one erI rfl rfl hown0 rfl rfl rfl (by simp [Value.oneCell']) (by omega) (by omega) B3.size ?_); intro v' w4 hown1 _ hb1 hne1)
            go_roundw
            case rel => exact ⟨k + 1, 1, [(cn : Int)], by omega, by omega, by go_num, hown1, B3.trans hb1, HX⟩
            case measure => simp [intOf] <;> omega
          · obtain rfl : z0 = 1 := by omega
            have HX : Hid ((bn : Int) :: t = extA (ltV v true) (l.take (k + 1))) := Lib.hid (by rw [HS.out]; simp only [exStep]; rw [if_neg (by rw [h1]; decide), if_pos h2])
            clear h1 h2 hz
            go_wp2_with fail
            go_roundw
            case rel => exact ⟨k + 1, m, _, by omega, by omega, by go_num, hown, B3, HX⟩
            case measure => simp [intOf] <;> omega
          · obtain rfl : z0 = 0 := by omega
            have HX : Hid ((bn : Int) :: t ++ [(cn : Int)] = extA (ltV v true) (l.take (k + 1))) := Lib.hid (by rw [HS.out]; simp only [exStep]; rw [if_neg (by rw [h1]; decide), if_neg (by rw [h2]; decide)])
            clear h1 h2 hz
            go_wp2_with (at_builtin; go_must (refine append_one erI rfl rfl hown rfl rfl rfl (by simp [Value.oneCell']) (by omega) (by omega) B3.size ?_); intro v' w4 hown1 _ hb1 hne1)
            go_roundw
            case rel =>
              refine ⟨k + 1, m + 1, (bn : Int) :: t ++ [(cn : Int)], by omega, by omega, by go_num, ?_, B3.trans hb1, HX⟩
              rw [List.map_append]
              exact hown1
            case measure => simp [intOf] <;> omega
    · have hltz : ¬ (k : Int) < (len : Int) := by omega
      have HE : Hid (o = extA (ltV v true) l) := Lib.hid (by rw [hP.out, List.take_of_length_le (by rw [HN.out]; omega)])
      clear hown
      go_wp2_with fail
      go_ret
      exact ⟨_, rfl, by rw [← HE.out]; exact HI.out, hbel⟩

set_option maxRecDepth 100000 in
set_option maxHeartbeats 16000000 in
theorem extremes_false {vv vl : Value} {v : List Q} {l : List Int} {w : World} (hv : RatsAt w vv v) (hl : IntsAt w vl l) (hr : ∀ x ∈ l, 0 ≤ x ∧ x < 1000) (hln : l.length ≤ 1000) :
    Calls Tryz.prog 73 #[vl, vv, .bool false] w fun e w' => ∃ v', e = .returned v' ∧ IntsAt w' v' (extA (ltV v false) l) ∧ Below w.heap.size w w' := by
  have SW := Lib.hid (ltV_swo hv.shs false)
  have SH := Lib.hid hv.shs
  have HV := Lib.hid hv
  have HL := Lib.hid hl
  have HR := Lib.hid hr
  obtain ⟨p, c, rfl⟩ := hl.shape
  obtain ⟨p', c', rfl⟩ := hv.shp
  obtain ⟨len, hlen⟩ : ∃ n, l.length = n := ⟨_, rfl⟩
  obtain ⟨nv, hnv⟩ : ∃ n, v.length = n := ⟨_, rfl⟩
  have HN := Lib.hid hlen
  rw [hlen] at hln HL ⊢
  rw [hnv] at HV ⊢
  clear hv hl hr hlen hnv
  go_enter Tryz.func73, Tryz.ntmps73
  go_wp2_with fail
  go_loopw [7, 13] (fun ov iv wr => ∃ k m : Nat, ∃ o : List Int, k ≤ len ∧ m ≤ k ∧ iv = .int .i64 k ∧ wr.ownsRow w.heap.size 3 1 ov m (o.map (Value.int .i64)) ∧ Below w.heap.size w wr ∧ Hid (o = extA (ltV v false) (l.take k))) (fun _ iv _ => len - (intOf iv).toNat)
  case atStart => exact ⟨0, 0, [], by omega, by omega, rfl, World.ownsRow_nil _ _ _ _, Below.refl _ _, Lib.hid rfl⟩
  case round =>
    obtain ⟨k, m, o, hk, hm, rfl, hown, hbel, hP⟩ := hrel
    have hol : o.length = m := by
      have h1 := hown.1
      rw [List.length_map] at h1
      omega
    have HI := Lib.hid (ints_owned hown)
    obtain ⟨p1, c1, rfl, hmc, hcm⟩ := own_shape hown
    by_cases hlt : k < len
    · have hltz : (k : Int) < (len : Int) := by omega
      obtain ⟨bb, off, hp0, hc1, hc2, hcell⟩ := (HL.out.keep hbel).cellAt k (by rw [HN.out]; exact hlt)
      subst hp0
      have hmem := HR.out (l.getD k 0) (mem_getD (by rw [HN.out]; exact hlt) rfl)
      have hts := take_snoc_i (l := l) (k := k) (by rw [HN.out]; exact hlt)
      obtain ⟨y, hy⟩ : ∃ y, l.getD k 0 = y := ⟨_, rfl⟩
      rw [hy] at hcell hts hmem
      obtain ⟨cn, hcn⟩ : ∃ j : Nat, y = j := ⟨y.toNat, by omega⟩
      subst hcn
      have HS : Hid (extA (ltV v false) (l.take (k + 1)) = exStep (ltV v false) o cn) := Lib.hid (by rw [hts, extA_snoc SW.out, hP.out])
      have hcl : cn < 1000 := by omega
      clear hy hts hmem
      cases o with
      | nil =>
        obtain rfl : m = 0 := by rw [← hol]; rfl
        have HX : Hid ([(cn : Int)] = extA (ltV v false) (l.take (k + 1))) := Lib.hid (by rw [HS.out]; rfl)
        go_wp2_with (at_builtin; go_must (refine append_one erI rfl rfl hown rfl rfl rfl (by simp [Value.oneCell']) (by omega) (by omega) hbel.size ?_); intro v' w1 hown1 _ hb1 hne1)
        go_roundw
        case rel => exact ⟨k + 1, 1, [(cn : Int)], by omega, by omega, by go_num, hown1, hbel.trans hb1, HX⟩
        case measure => simp [intOf] <;> omega
      | cons b t =>
        have hm0 : 0 < m := by rw [← hol]; simp
        have hm0z : (0 : Int) < (m : Int) := by omega
        have hbm : b ∈ l := by
          have : b ∈ extA (ltV v false) (l.take k) := by rw [← hP.out]; simp
          exact List.mem_of_mem_take (mem_extA.1 this).1
        have hbr := HR.out b hbm
        obtain ⟨bn, hbn⟩ : ∃ j : Nat, b = j := ⟨b.toNat, by omega⟩
        subst hbn
        have hbl : bn < 1000 := by omega
        rw [← hol] at HI
        obtain ⟨gb, goff, hp1, _, _, hcell0⟩ := HI.out.cellAt 0 (by simp)
        subst hp1
        rw [hol] at HI
        have hcell0 : wr.cell? ⟨gb, goff, none⟩ = some (.int .i64 bn) := hcell0
        have hbD := hbel.drew
        obtain ⟨qc, hqc⟩ : ∃ q, vote v cn = q := ⟨_, rfl⟩
        obtain ⟨qb, hqb⟩ : ∃ q, vote v bn = q := ⟨_, rfl⟩
        have VC : Hid (∀ w', Below w.heap.size w w' → Calls Tryz.prog 90 #[.slice p' nv c', .int .i64 cn] w' (GivesS qc w')) := Lib.hid (fun w' hb => by
          rw [← hqc]; exact votesOf_c (HV.out.keep hb) cn hcl)
        have VB : Hid (∀ w', Below w.heap.size w w' → Calls Tryz.prog 90 #[.slice p' nv c', .int .i64 bn] w' (GivesS qb w')) := Lib.hid (fun w' hb => by
          rw [← hqb]; exact votesOf_c (HV.out.keep hb) bn hbl)
        obtain ⟨z, hz, HZ⟩ := ordS (v := v) false cn bn
        rw [hqc, hqb] at hz
        obtain ⟨z0, hz0⟩ : ∃ z, cmpS qc qb = z := ⟨_, rfl⟩
        rw [hz0] at hz
        have CM : Hid (∀ w' v1 v2, RatN w' v1 qc 2 → RatN w' v2 qb 2 → Calls Tryz.prog 89 #[v1, v2] w' fun e w'' => e = .returned (.int .i64 z0) ∧ Below w'.heap.size w' w'') := Lib.hid (fun w' v1 v2 h1 h2 => by
          have := cmp_r h1.at h2.at (by omega) (by omega)
          rw [Q.cmp_sh (by rw [← hqc]; exact vote_sh SH.out _) (by rw [← hqb]; exact vote_sh SH.out _), hz0] at this
          exact this)
        have HZ : Hid (((-z0) = -1 ∧ ltV v false cn bn = true) ∨ ((-z0) = 1 ∧ ltV v false cn bn = false ∧ ltV v false bn cn = true) ∨ ((-z0) = 0 ∧ ltV v false cn bn = false ∧ ltV v false bn cn = false)) := Lib.hid (by
          have e : (-z0) = z := by rw [← hz]; rfl
          rw [e]; exact HZ)
        have S0 : Hid (wr.drew.cell? ⟨gb, goff, none⟩ = some (.int .i64 bn)) := Lib.hid hcell0
        clear hqc hqb hz hz0 hbm hbr
        go_wp2_with fail
        go_region_held3 (fun w' => w'.cell? ⟨gb, goff, none⟩ = some (.int .i64 bn))
          (first | exact S3.out | exact S2.out | exact S1.out | exact S0.out)
          (first
          | (go_at_call 90; ((with_reducible refine (VC.out _ hbD).mono ?_); rintro e w1 ⟨q1, i1, j1, q2, i2, j2, rfl, hvc, _, hbc⟩; have BC := bel2' hbD hbc; have S1 := Lib.hid (cell_keep hbc S0.out)))
          | (go_at_call 90; ((with_reducible refine (VB.out _ hbD).mono ?_); rintro e w1 ⟨q3, i3, j3, q4, i4, j4, rfl, hvb, _, hbb⟩; have BB := bel2' hbD hbb; have S1 := Lib.hid (cell_keep hbb S0.out)))
          | (go_at_call 90; ((with_reducible refine (VC.out _ BB).mono ?_); rintro e w2 ⟨q1, i1, j1, q2, i2, j2, rfl, hvc, _, hbc⟩; have B2 := bel2' BB hbc; have hvb := hvb.keep hbc; have S2 := Lib.hid (cell_keep hbc S1.out)))
          | (go_at_call 90; ((with_reducible refine (VB.out _ BC).mono ?_); rintro e w2 ⟨q3, i3, j3, q4, i4, j4, rfl, hvb, _, hbb⟩; have B2 := bel2' BC hbb; have hvc := hvc.keep hbb; have S2 := Lib.hid (cell_keep hbb S1.out)))
          | (go_at_call 89; ((with_reducible refine (CM.out _ _ _ hvc hvb).mono ?_); rintro e w3 ⟨rfl, hb3⟩; have B3 := bel2' B2 hb3; have hB13 := hb3; have S3 := Lib.hid (cell_keep hb3 S2.out))))
        all_goals
          first | (have hbw := bel2' ((Below.refl wr.heap.size wr).drew) (bel2' (bel2' hbc hbb) hb3)) | (have hbw := bel2' ((Below.refl wr.heap.size wr).drew) (bel2' (bel2' hbb hbc) hb3))
          have hown := ownsRow_below hown hbw
          rcases HZ.out with ⟨hz, h1⟩ | ⟨hz, h1, h2⟩ | ⟨hz, h1, h2⟩
          · obtain rfl : z0 = 1 := by omega
            have HX : Hid ([(cn : Int)] = extA (ltV v false) (l.take (k + 1))) := Lib.hid (by rw [HS.out]; simp only [exStep]; rw [if_pos h1])
            clear h1 hz
            have hown0 := own_cut hown
            go_wp2_with (at_builtin; go_must (refine append_one erI rfl rfl hown0 rfl rfl rfl (by simp [Value.oneCell']) (by omega) (by omega) B3.size ?_); intro v' w4 hown1 _ hb1 hne1)
            go_roundw
            case rel => exact ⟨k + 1, 1, [(cn : Int)], by omega, by omega, by go_num, hown1, B3.trans hb1, HX⟩
            case measure => simp [intOf] <;> omega
          · obtain rfl : z0 = -1 := by omega
            have HX : Hid ((bn : Int) :: t = extA (ltV v false) (l.take (k + 1))) := Lib.hid (by rw [HS.out]; simp only [exStep]; rw [if_neg (by rw [h1]; decide), if_pos h2])
            clear h1 h2 hz
            go_wp2_with fail
            go_roundw
            case rel => exact ⟨k + 1, m, _, by omega, by omega, by go_num, hown, B3, HX⟩
            case measure => simp [intOf] <;> omega
          · obtain rfl : z0 = 0 := by omega
            have HX : Hid ((bn : Int) :: t ++ [(cn : Int)] = extA (ltV v false) (l.take (k + 1))) := Lib.hid (by rw [HS.out]; simp only [exStep]; rw [if_neg (by rw [h1]; decide), if_neg (by rw [h2]; decide)])
            clear h1 h2 hz
            go_wp2_with (at_builtin; go_must (refine append_one erI rfl rfl hown rfl rfl rfl (by simp [Value.oneCell']) (by omega) (by omega) B3.size ?_); intro v' w4 hown1 _ hb1 hne1)
            go_roundw
            case rel =>
              refine ⟨k + 1, m + 1, (bn : Int) :: t ++ [(cn : Int)], by omega, by omega, by go_num, ?_, B3.trans hb1, HX⟩
              rw [List.map_append]
              exact hown1
            case measure => simp [intOf] <;> omega
    · have hltz : ¬ (k : Int) < (len : Int) := by omega
      have HE : Hid (o = extA (ltV v false) l) := Lib.hid (by rw [hP.out, List.take_of_length_le (by rw [HN.out]; omega)])
      clear hown
      go_wp2_with fail
      go_ret
      exact ⟨_, rfl, by rw [← HE.out]; exact HI.out, hbel⟩

theorem extremes_c {vv vl : Value} {v : List Q} {l : List Int} {w : World} (hv : RatsAt w vv v) (hl : IntsAt w vl l) (hr : ∀ x ∈ l, 0 ≤ x ∧ x < 1000) (hln : l.length ≤ 1000) (least : Bool) :
    Calls Tryz.prog 73 #[vl, vv, .bool least] w fun e w' => ∃ v', e = .returned v' ∧ IntsAt w' v' (extA (ltV v least) l) ∧ Below w.heap.size w w' := by
  cases least
  · exact extremes_false hv hl hr hln
  · exact extremes_true hv hl hr hln

end Go.Proofs.YtbnhgmikegdppaaGreat

/- What a tie is: the reference's Ballot, Permutation and Tie. -/
namespace Go.Proofs.Nums

def BalP (n : Int) (l : List Int) : Prop := (∀ c ∈ l, 0 ≤ c ∧ c < n) ∧ l.Nodup
instance (n : Int) (l : List Int) : Decidable (BalP n l) := by unfold BalP; infer_instance
def balS (n : Int) (l : List Int) : Bool := decide (BalP n l)
theorem BalP.snoc {n : Int} {l : List Int} {k : Nat} {y : Int} (h : k < l.length) (hy : l.getD k 0 = y) (hp : BalP n (l.take k)) (h0 : 0 ≤ y) (h1 : y < n) (h2 : hasB (l.take k) y = false) : BalP n (l.take (k + 1)) := by
  rw [take_snoc_i h, hy]
  refine ⟨fun c hc => ?_, ?_⟩
  · rcases List.mem_append.1 hc with g | g
    · exact hp.1 c g
    · rw [List.mem_singleton.1 g]; exact ⟨h0, h1⟩
  · rw [List.nodup_append]
    refine ⟨hp.2, by simp, fun a ha b hb e => ?_⟩
    rw [List.mem_singleton.1 hb] at e
    exact hasB_false.1 h2 (e ▸ ha)
theorem bal_no_range {n : Int} {l : List Int} {k : Nat} {y : Int} (h : k < l.length) (hy : l.getD k 0 = y) (h0 : ¬ (0 ≤ y ∧ y < n)) : ¬ BalP n l := fun g => h0 (g.1 y (mem_getD h hy))
theorem nodup_take {l : List Int} (h : l.Nodup) (k : Nat) : (l.take k).Nodup := h.sublist (List.take_sublist _ _)
theorem bal_no_dup {n : Int} {l : List Int} {k : Nat} {y : Int} (h : k < l.length) (hy : l.getD k 0 = y) (h0 : hasB (l.take k) y = true) : ¬ BalP n l := fun g => by
  have := nodup_take g.2 (k + 1)
  rw [take_snoc_i h, hy, List.nodup_append] at this
  exact this.2.2 y (hasB_true.1 h0) y (by simp) rfl
/-- Strictly rising. -/
theorem pair_snoc {p : List Int} {x : Int} (hp : p.Pairwise (· < ·)) (hne : p ≠ []) (h : p.getLast hne < x) : (p ++ [x]).Pairwise (· < ·) := by
  rw [List.pairwise_append]
  refine ⟨hp, by simp, fun a ha b hb => ?_⟩
  rw [List.mem_singleton.1 hb]
  have e := List.dropLast_concat_getLast hne
  rw [← e] at ha hp
  rcases List.mem_append.1 ha with g | g
  · have := (List.pairwise_append.1 hp).2.2 a g (p.getLast hne) (by simp)
    omega
  · rw [List.mem_singleton.1 g]; exact h
theorem pair_step {l : List Int} {k : Nat} {x y : Int} (h : k + 1 < l.length) (hx : l.getD k 0 = x) (hy : l.getD (k + 1) 0 = y) (hp : (l.take (k + 1)).Pairwise (· < ·)) (hlt : x < y) : (l.take (k + 1 + 1)).Pairwise (· < ·) := by
  rw [take_snoc_i h, hy]
  have hne : l.take (k + 1) ≠ [] := by
    intro g
    have := congrArg List.length g
    rw [List.length_take, List.length_nil] at this
    omega
  refine pair_snoc hp hne ?_
  have e : (l.take (k + 1)).getLast hne = x := by
    have h2 := take_snoc_i (l := l) (k := k) (by omega)
    rw [hx] at h2
    have h3 : (l.take (k + 1)).getLast? = some x := by rw [h2]; simp
    rw [List.getLast?_eq_some_getLast hne] at h3
    exact Option.some.inj h3
  rw [e]; exact hlt
theorem pair_no {l : List Int} {k : Nat} {x y : Int} (h : k + 1 < l.length) (hx : l.getD k 0 = x) (hy : l.getD (k + 1) 0 = y) (hlt : ¬ x < y) : ¬ l.Pairwise (· < ·) := fun g => by
  have h1 := List.pairwise_iff_getElem.1 g k (k + 1) (by omega) h (by omega)
  rw [List.getD_eq_getElem?_getD, List.getElem?_eq_getElem (by omega)] at hx
  rw [List.getD_eq_getElem?_getD, List.getElem?_eq_getElem h] at hy
  simp only [Option.getD_some] at hx hy
  rw [hx, hy] at h1
  exact hlt h1
theorem pair_one (l : List Int) : (l.take 1).Pairwise (· < ·) := by
  cases l with
  | nil => simp
  | cons a t => simp
theorem valid_eq (rule : Int) (tied lots : List Int) : validS rule tied lots = true ↔ (1 ≤ rule ∧ rule ≤ 3 ∧ 1 ≤ lots.length ∧ lots.length ≤ 7) ∧ BalP lots.length lots ∧ tied ≠ [] ∧ BalP lots.length tied ∧ tied.Pairwise (· < ·) := by
  unfold validS BalP
  rw [decide_eq_true_iff]
  constructor
  · rintro ⟨h1, h2, h3, h4, h5, h6, h7, h8, h9⟩
    exact ⟨⟨h1, h2, h3, h4⟩, ⟨h5, h6⟩, h7, ⟨h8, h9.imp fun h => by omega⟩, h9⟩
  · rintro ⟨⟨h1, h2, h3, h4⟩, ⟨h5, h6⟩, h7, ⟨h8, _⟩, h9⟩
    exact ⟨h1, h2, h3, h4, h5, h6, h7, h8, h9⟩
theorem valid_false {rule : Int} {tied lots : List Int} (h : ¬ ((1 ≤ rule ∧ rule ≤ 3 ∧ 1 ≤ lots.length ∧ lots.length ≤ 7) ∧ BalP lots.length lots ∧ tied ≠ [] ∧ BalP lots.length tied ∧ tied.Pairwise (· < ·))) : validS rule tied lots = false := by
  cases hv : validS rule tied lots with
  | false => rfl
  | true => exact absurd ((valid_eq _ _ _).1 hv) h

end Go.Proofs.Nums
namespace Go.Proofs.YtbnhgmikegdppaaGreat
open Go.RowKit Go.Proofs.Kit Go.Proofs.Nums

theorem IntsAt.cutTo {w : World} {p : Option Addr} {n c : Nat} {l : List Int} (h : IntsAt w (.slice p n c) l) {k : Nat} (hk : k ≤ l.length) : IntsAt w (.slice p k c) (l.take k) := by
  obtain ⟨p', cap, e2, g1, g2, g3, g4⟩ := h
  simp only [Value.slice.injEq] at e2
  obtain ⟨rfl, _, rfl⟩ := e2
  rw [List.length_map] at g1
  refine ⟨p, c, by rw [List.length_map, List.length_take, Nat.min_eq_left hk], by rw [List.length_map, List.length_take]; omega, g2, g3, fun q hq i u hi => g4 q hq i u ?_⟩
  rw [List.getElem?_map] at hi ⊢
  by_cases hlt : i < k
  · rw [List.getElem?_take_of_lt hlt] at hi; exact hi
  · rw [List.getElem?_eq_none (by rw [List.length_take]; omega)] at hi; simp at hi

set_option maxHeartbeats 4000000 in
theorem ballot_c {v : Value} {l : List Int} {w : World} (hv : IntsAt w v l) (n : Int) :
    Calls Tryz.prog 42 #[.int .i64 n, v] w fun e w' => e = .returned (.bool (balS n l)) ∧ Below w.heap.size w w' := by
  have H := Lib.hid hv
  have hlm := hv.len
  obtain ⟨p, c, rfl⟩ := hv.shape
  have hcap : l.length ≤ c := by
    obtain ⟨p', cap, e, h1, _⟩ := hv
    simp only [Value.slice.injEq] at e
    obtain ⟨_, _, rfl⟩ := e
    rw [List.length_map] at h1; exact h1
  obtain ⟨len, hlen⟩ : ∃ n, l.length = n := ⟨_, rfl⟩
  have HN := Lib.hid hlen
  rw [hlen] at hlm H hcap ⊢
  clear hv hlen
  obtain ⟨r, hr⟩ : ∃ r, balS n l = r := ⟨_, rfl⟩
  rw [hr]
  have HRT : Hid (BalP n l → r = true) := Lib.hid (fun h => by rw [← hr]; unfold balS; exact decide_eq_true h)
  have HRF : Hid (¬ BalP n l → r = false) := Lib.hid (fun h => by rw [← hr]; unfold balS; exact decide_eq_false h)
  clear hr
  go_enter Tryz.func42, Tryz.ntmps42
  go_wp2_with fail
  go_loopw [5] (fun iv wr => ∃ k : Nat, k ≤ len ∧ iv = .int .i64 k ∧ Below w.heap.size w wr ∧ Hid (BalP n (l.take k))) (fun iv _ => len - (intOf iv).toNat)
  case atStart => exact ⟨0, by omega, rfl, Below.refl _ _, Lib.hid ⟨fun c hc => by simp at hc, by simp⟩⟩
  case round =>
    obtain ⟨k, hk, rfl, hbel, hP⟩ := hrel
    by_cases hlt : k < len
    · have hltz : (k : Int) < (len : Int) := by omega
      obtain ⟨bb, off, hp0, hc1, hc2, hcell⟩ := (H.out.keep hbel).cellAt k (by rw [HN.out]; exact hlt)
      subst hp0
      obtain ⟨y, hy⟩ : ∃ y, l.getD k 0 = y := ⟨_, rfl⟩
      rw [hy] at hcell
      have HY := Lib.hid hy
      clear hy
      by_cases y0 : y < 0
      · have HX : Hid (r = false) := Lib.hid (HRF.out (bal_no_range (by rw [HN.out]; exact hlt) HY.out (by omega)))
        have d0 : decide (y < 0) = true := by rw [decide_eq_true_iff]; exact y0
        go_wp2_with fail
        go_quiet (fail)
        all_goals
          go_wp2_with fail
          go_ret
          exact ⟨ret_bb HX.out.symm, below_drewN hbel _⟩
      · by_cases y1 : n ≤ y
        · have HX : Hid (r = false) := Lib.hid (HRF.out (bal_no_range (by rw [HN.out]; exact hlt) HY.out (by omega)))
          have d0 : decide (y < 0) = false := by rw [decide_eq_false_iff_not]; exact y0
          have d1 : decide (n ≤ y) = true := by rw [decide_eq_true_iff]; exact y1
          go_wp2_with fail
          go_quiet (fail)
          all_goals
            go_wp2_with fail
            go_ret
            exact ⟨ret_bb HX.out.symm, below_drewN hbel _⟩
        · have d0 : decide (y < 0) = false := by rw [decide_eq_false_iff_not]; exact y0
          have d1 : decide (n ≤ y) = false := by rw [decide_eq_false_iff_not]; exact y1
          have HA : Hid (∀ q, Calls Tryz.prog 65 #[.slice (some ⟨bb, off, none⟩) k c, .int .i64 y] (wr.drewN q) fun e w'' => e = .returned (.bool (hasB (l.take k) y)) ∧ w'' = wr.drewN q) := Lib.hid (fun q => (has_c ((H.out.keep (below_drewN hbel q)).cutTo (by rw [HN.out]; omega)) y).mono fun _ _ ⟨h1, h2⟩ => ⟨h1, h2.symm⟩)
          have S0 : Hid (wr.drew.cell? ⟨bb, off + k, none⟩ = some (.int .i64 y)) := Lib.hid hcell
          have hbD := hbel.drew
          have kc : (k : Int) ≤ (c : Int) := by omega
          have kc0 : (0 : Int) ≤ (k : Int) := by omega
          cases hb : hasB (l.take k) y
          · rw [hb] at HA
            have HX : Hid (BalP n (l.take (k + 1))) := Lib.hid (BalP.snoc (by rw [HN.out]; exact hlt) HY.out hP.out (by omega) (by omega) hb)
            clear hb
            go_wp2_with fail
            go_quiet ((go_at_call 65; exact Calls.quiet_of_same (HA.out _)))
            all_goals
              go_wp2_with fail
              go_roundw
              case rel => exact ⟨k + 1, by omega, by go_num, below_drewN hbel _, HX⟩
              case measure => simp [intOf] <;> omega
          · rw [hb] at HA
            have HX : Hid (r = false) := Lib.hid (HRF.out (bal_no_dup (by rw [HN.out]; exact hlt) HY.out hb))
            clear hb
            go_wp2_with fail
            go_quiet ((go_at_call 65; exact Calls.quiet_of_same (HA.out _)))
            all_goals
              go_wp2_with fail
              go_ret
              exact ⟨ret_bb HX.out.symm, below_drewN hbel _⟩
    · have hltz : ¬ (k : Int) < (len : Int) := by omega
      have HX : Hid (r = true) := Lib.hid (HRT.out (by have := hP.out; rwa [List.take_of_length_le (by rw [HN.out]; omega)] at this))
      go_wp2_with fail
      go_ret
      exact ⟨ret_bb HX.out.symm, hbel⟩

set_option maxHeartbeats 1000000 in
theorem permutation_c {v : Value} {l : List Int} {w : World} (hv : IntsAt w v l) :
    Calls Tryz.prog 55 #[.int .i64 l.length, v] w fun e w' => e = .returned (.bool (balS l.length l)) ∧ Below w.heap.size w w' := by
  have BA := Lib.hid (ballot_c hv l.length)
  have hlm := hv.len
  obtain ⟨p, c, rfl⟩ := hv.shape
  obtain ⟨len, hlen⟩ : ∃ n, l.length = n := ⟨_, rfl⟩
  rw [hlen] at BA hlm ⊢
  obtain ⟨r, hr⟩ : ∃ r, balS len l = r := ⟨_, rfl⟩
  rw [hr] at BA ⊢
  clear hv hlen hr
  go_enter Tryz.func55, Tryz.ntmps55
  go_wp2_with (go_at_call 42; ((with_reducible refine BA.out.mono ?_); rintro e w1 ⟨rfl, hb1⟩))
  go_ret
  exact ⟨rfl, hb1⟩

end Go.Proofs.YtbnhgmikegdppaaGreat

/- The reference's Tie. -/
namespace Go.Proofs.YtbnhgmikegdppaaGreat
open Go.RowKit Go.Proofs.Kit Go.Proofs.Nums

set_option maxRecDepth 100000 in
set_option maxHeartbeats 4000000 in
theorem rtie_c {vt vl : Value} {tied lots : List Int} {w : World} (ht : IntsAt w vt tied) (hl : IntsAt w vl lots) (rule : Int) :
    Calls Tryz.prog 60 #[.int .i64 rule, vt, vl] w fun e w' => e = .returned (.bool (validS rule tied lots)) ∧ Below w.heap.size w w' := by
  have T := Lib.hid ht
  have htm := ht.len
  have hlm := hl.len
  have PE : Hid (∀ w', Below w.heap.size w w' → Calls Tryz.prog 55 #[.int .i64 lots.length, vl] w' fun e w'' => e = .returned (.bool (balS lots.length lots)) ∧ Below w'.heap.size w' w'') := Lib.hid (fun w' hb => permutation_c (hl.keep hb))
  have BA : Hid (∀ w', Below w.heap.size w w' → Calls Tryz.prog 42 #[.int .i64 lots.length, vt] w' fun e w'' => e = .returned (.bool (balS lots.length tied)) ∧ Below w'.heap.size w' w'') := Lib.hid (fun w' hb => ballot_c (ht.keep hb) lots.length)
  obtain ⟨p, c, rfl⟩ := ht.shape
  obtain ⟨p', c', rfl⟩ := hl.shape
  obtain ⟨r, hr⟩ : ∃ r, validS rule tied lots = r := ⟨_, rfl⟩
  have HRT := Lib.hid (fun h => (by rw [← hr]; exact (valid_eq _ _ _).2 h : r = true))
  have HRF := Lib.hid (fun h => (by rw [← hr]; exact valid_false h : r = false))
  rw [hr]
  have HTN : Hid (tied.length ≠ 0 → tied ≠ []) := Lib.hid (fun h g => h (by rw [g]; rfl))
  have HTZ : Hid (tied.length = 0 → ¬ tied ≠ []) := Lib.hid (fun h g => g (List.eq_nil_of_length_eq_zero h))
  obtain ⟨len, hlen⟩ : ∃ n, tied.length = n := ⟨_, rfl⟩
  obtain ⟨nl, hnl⟩ : ∃ n, lots.length = n := ⟨_, rfl⟩
  have HN := Lib.hid hlen
  rw [hlen] at htm T HTN HTZ BA ⊢
  rw [hnl] at hlm PE BA HRT HRF ⊢
  clear ht hl hr hlen hnl
  by_cases c1 : rule < 1
  · have HX : Hid (r = false) := Lib.hid (HRF.out (fun h => by have := h.1.1; omega))
    have d1 : decide (rule < 1) = true := decide_eq_true c1
    go_enter Tryz.func60, Tryz.ntmps60
    go_wp2_with fail
    go_ret
    exact ⟨ret_bb HX.out.symm, Below.refl _ _⟩
  have d1 : decide (rule < 1) = false := decide_eq_false c1
  by_cases c2 : 3 < rule
  · have HX : Hid (r = false) := Lib.hid (HRF.out (fun h => by have := h.1.2.1; omega))
    have d2 : decide (3 < rule) = true := decide_eq_true c2
    go_enter Tryz.func60, Tryz.ntmps60
    go_wp2_with fail
    go_ret
    exact ⟨ret_bb HX.out.symm, Below.refl _ _⟩
  have d2 : decide (3 < rule) = false := decide_eq_false c2
  by_cases c3 : (nl : Int) < 1
  · have HX : Hid (r = false) := Lib.hid (HRF.out (fun h => by have := h.1.2.2.1; omega))
    have d3 : decide ((nl : Int) < 1) = true := decide_eq_true c3
    go_enter Tryz.func60, Tryz.ntmps60
    go_wp2_with fail
    go_ret
    exact ⟨ret_bb HX.out.symm, Below.refl _ _⟩
  have d3 : decide ((nl : Int) < 1) = false := decide_eq_false c3
  by_cases c4 : 7 < (nl : Int)
  · have HX : Hid (r = false) := Lib.hid (HRF.out (fun h => by have := h.1.2.2.2; omega))
    have d4 : decide (7 < (nl : Int)) = true := decide_eq_true c4
    go_enter Tryz.func60, Tryz.ntmps60
    go_wp2_with fail
    go_ret
    exact ⟨ret_bb HX.out.symm, Below.refl _ _⟩
  have d4 : decide (7 < (nl : Int)) = false := decide_eq_false c4
  cases hb1 : balS nl lots
  · have HX : Hid (r = false) := Lib.hid (HRF.out (fun h => by unfold balS at hb1; exact absurd h.2.1 (of_decide_eq_false hb1)))
    rw [hb1] at PE
    clear hb1
    go_enter Tryz.func60, Tryz.ntmps60
    go_wp2_with (go_at_call 55; ((with_reducible refine (PE.out _ (Below.refl _ _)).mono ?_); rintro e w1 ⟨rfl, hb1⟩))
    go_ret
    exact ⟨ret_bb HX.out.symm, hb1⟩
  have HB1 : Hid (BalP nl lots) := Lib.hid (of_decide_eq_true hb1)
  rw [hb1] at PE
  clear hb1
  by_cases c5 : len = 0
  · have HX : Hid (r = false) := Lib.hid (HRF.out (fun h => HTZ.out c5 h.2.2.1))
    subst c5
    go_enter Tryz.func60, Tryz.ntmps60
    go_wp2_with (go_at_call 55; ((with_reducible refine (PE.out _ (Below.refl _ _)).mono ?_); rintro e w1 ⟨rfl, hb1⟩))
    go_ret
    exact ⟨ret_bb HX.out.symm, hb1⟩
  have d5 : ((len : Int) == 0) = false := by rw [beq_eq_false_iff_ne]; omega
  cases hb2 : balS nl tied
  · have HX : Hid (r = false) := Lib.hid (HRF.out (fun h => by unfold balS at hb2; exact absurd h.2.2.2.1 (of_decide_eq_false hb2)))
    rw [hb2] at BA
    clear hb2
    go_enter Tryz.func60, Tryz.ntmps60
    go_wp2_with (first
      | (go_at_call 55; ((with_reducible refine (PE.out _ (Below.refl _ _)).mono ?_); rintro e w1 ⟨rfl, hb1⟩))
      | (go_at_call 42; ((with_reducible refine (BA.out _ hb1).mono ?_); rintro e w2 ⟨rfl, hb2⟩; have hB2 := bel2' hb1 hb2)))
    go_ret
    exact ⟨ret_bb HX.out.symm, hB2⟩
  have HB2 : Hid (BalP nl tied) := Lib.hid (of_decide_eq_true hb2)
  rw [hb2] at BA
  have HRT : Hid (tied.Pairwise (· < ·) → r = true) := Lib.hid (fun h => HRT.out ⟨⟨by omega, by omega, by omega, by omega⟩, HB1.out, HTN.out c5, HB2.out, h⟩)
  have HRF : Hid (¬ tied.Pairwise (· < ·) → r = false) := Lib.hid (fun h => HRF.out (fun g => h g.2.2.2.2))
  clear hb2
  go_enter Tryz.func60, Tryz.ntmps60
  go_wp2_with (first
    | (go_at_call 55; ((with_reducible refine (PE.out _ (Below.refl _ _)).mono ?_); rintro e w1 ⟨rfl, hb1⟩))
    | (go_at_call 42; ((with_reducible refine (BA.out _ hb1).mono ?_); rintro e w2 ⟨rfl, hb2⟩; have hB2 := bel2' hb1 hb2)))
  go_loopw [7] (fun iv wr => ∃ k : Nat, k + 1 ≤ len ∧ iv = .int .i64 ((k + 1 : Nat) : Int) ∧ Below w.heap.size w wr ∧ Hid ((tied.take (k + 1)).Pairwise (· < ·))) (fun iv _ => len - (intOf iv).toNat)
  case atStart => exact ⟨0, by omega, rfl, hB2, Lib.hid (pair_one _)⟩
  case round =>
    obtain ⟨k, hk, rfl, hbel, hP⟩ := hrel
    by_cases hlt : k + 1 < len
    · have hltz : ((k + 1 : Nat) : Int) < (len : Int) := by omega
      have hltz' : (k : Int) + 1 < (len : Int) := by omega
      obtain ⟨bb, off, hp0, hc1, hc2, hcell⟩ := (T.out.keep hbel).cellAt k (by rw [HN.out]; omega)
      obtain ⟨bb2, off2, hp2, _, _, hcell2⟩ := (T.out.keep hbel).cellAt (k + 1) (by rw [HN.out]; exact hlt)
      subst hp0
      simp only [Option.some.injEq, Addr.mk.injEq, and_true] at hp2
      obtain ⟨rfl, rfl⟩ := hp2
      obtain ⟨x, hx⟩ : ∃ y, tied.getD k 0 = y := ⟨_, rfl⟩
      obtain ⟨y, hy⟩ : ∃ y, tied.getD (k + 1) 0 = y := ⟨_, rfl⟩
      rw [hx] at hcell
      rw [hy] at hcell2
      by_cases hxy : x < y
      · have HX := Lib.hid (pair_step (by rw [HN.out]; exact hlt) hx hy hP.out hxy)
        have hxy' : ¬ y ≤ x := by omega
        clear hx hy
        go_wp2_with fail
        go_quiet (fail)
        go_wp2_with fail
        go_roundw
        case rel => exact ⟨k + 1, by omega, by go_num, below_drewN hbel _, HX⟩
        case measure => simp [intOf] <;> omega
      · have HX : Hid (r = false) := Lib.hid (HRF.out (pair_no (by rw [HN.out]; exact hlt) hx hy hxy))
        have hxy' : y ≤ x := by omega
        clear hx hy
        go_wp2_with fail
        go_quiet (fail)
        go_wp2_with fail
        go_ret
        exact ⟨ret_bb HX.out.symm, below_drewN hbel _⟩
    · have hltz : ¬ ((k + 1 : Nat) : Int) < (len : Int) := by omega
      have hltz' : ¬ (k : Int) + 1 < (len : Int) := by omega
      have HX : Hid (r = true) := Lib.hid (HRT.out (by have := hP.out; rwa [List.take_of_length_le (by rw [HN.out]; omega)] at this))
      go_wp2_with fail
      go_ret
      exact ⟨ret_bb HX.out.symm, hbel⟩

end Go.Proofs.YtbnhgmikegdppaaGreat

/- tie.Valid. -/
namespace Go.Proofs.YtbnhgmikegdppaaGreat
open Go.RowKit Go.Proofs.Kit Go.Proofs.Nums

/-- The seven flags: which numbers stand in p. -/
def seenV (p : List Int) (j : Nat) : Value := .bool (hasB p j)
def seenA (p : List Int) : Array Value := #[seenV p 0, seenV p 1, seenV p 2, seenV p 3, seenV p 4, seenV p 5, seenV p 6]
theorem seenA_nil : seenA [] = #[.bool false, .bool false, .bool false, .bool false, .bool false, .bool false, .bool false] := rfl
theorem seenA_at (p : List Int) {j : Nat} (h : j < 7) : (seenA p)[j]? = some (.bool (hasB p j)) := by
  rcases (by omega : j = 0 ∨ j = 1 ∨ j = 2 ∨ j = 3 ∨ j = 4 ∨ j = 5 ∨ j = 6) with rfl | rfl | rfl | rfl | rfl | rfl | rfl <;> rfl
theorem hasB_snoc (p : List Int) (y x : Int) : hasB (p ++ [y]) x = (hasB p x || decide (x = y)) := by
  unfold hasB
  by_cases h : x ∈ p <;> by_cases g : x = y <;> simp [h, g]
theorem seenV_snoc (p : List Int) {y j : Nat} : seenV (p ++ [(y : Int)]) j = if j = y then .bool true else seenV p j := by
  unfold seenV
  rw [hasB_snoc]
  by_cases h : j = y
  · subst h; simp
  · rw [if_neg h, decide_eq_false (show ¬ (j : Int) = (y : Int) by omega), Bool.or_false]
theorem seenA_put {b : Nat} {p : List Int} {y : Nat} {w : World} (h : Blk b (seenA p) w) (hy : y < 7) : Blk b (seenA (p ++ [(y : Int)])) (w.setCell ⟨b, y, none⟩ (.bool true)) := by
  refine ⟨by rw [World.size_setCell]; exact h.1, fun o => ?_, fun o => by rw [World.frozen?_setCell]; exact h.2.2 o⟩
  by_cases e : o = y
  · subst e
    have h1 := (h.2.1 o).trans (seenA_at p hy)
    rw [World.cell?_setCell_same w ⟨b, o, none⟩ _ h1, seenA_at _ hy, hasB_snoc]
    simp
  · rw [World.cell?_setCell_other w ⟨b, y, none⟩ ⟨b, o, none⟩ _ (fun g => e (by injection g with _ g2; exact g2.symm)), h.2.1 o]
    by_cases ho : o < 7
    · rw [seenA_at _ ho, seenA_at _ ho, hasB_snoc, decide_eq_false (show ¬ (o : Int) = (y : Int) by omega), Bool.or_false]
    · rw [Array.getElem?_eq_none (by simp [seenA]; omega), Array.getElem?_eq_none (by simp [seenA]; omega)]

set_option maxRecDepth 100000 in
set_option maxHeartbeats 4000000 in
theorem tvalid_c {vt vl : Value} {tied lots : List Int} {w : World} (ht : IntsAt w vt tied) (hl : IntsAt w vl lots) (rule : Int) :
    Calls Tryz.prog 71 #[.int .i64 rule, vt, vl] w fun e w' => e = .returned (.bool (validS rule tied lots)) ∧ Below w.heap.size w w' := by
  have T := Lib.hid ht
  have H := Lib.hid hl
  have htm := ht.len
  have hlm := hl.len
  obtain ⟨p, c, rfl⟩ := ht.shape
  obtain ⟨p', c', rfl⟩ := hl.shape
  obtain ⟨r, hr⟩ : ∃ r, validS rule tied lots = r := ⟨_, rfl⟩
  have HRT := Lib.hid (fun h => (by rw [← hr]; exact (valid_eq _ _ _).2 h : r = true))
  have HRF := Lib.hid (fun h => (by rw [← hr]; exact valid_false h : r = false))
  rw [hr]
  have HTN : Hid (tied.length ≠ 0 → tied ≠ []) := Lib.hid (fun h g => h (by rw [g]; rfl))
  have HTZ : Hid (tied.length = 0 → ¬ tied ≠ []) := Lib.hid (fun h g => g (List.eq_nil_of_length_eq_zero h))
  obtain ⟨len, hlen⟩ : ∃ n, tied.length = n := ⟨_, rfl⟩
  obtain ⟨nl, hnl⟩ : ∃ n, lots.length = n := ⟨_, rfl⟩
  have HN := Lib.hid hlen
  have HNL := Lib.hid hnl
  rw [hlen] at htm T HTN HTZ ⊢
  rw [hnl] at hlm H HRT HRF ⊢
  clear ht hl hr hlen hnl
  by_cases c1 : rule < 1
  · have HX : Hid (r = false) := Lib.hid (HRF.out (fun h => by have := h.1.1; omega))
    have d1 : decide (rule < 1) = true := decide_eq_true c1
    go_enter Tryz.func71, Tryz.ntmps71
    go_wp2_with fail
    go_ret
    exact ⟨ret_bb HX.out.symm, Below.refl _ _⟩
  have d1 : decide (rule < 1) = false := decide_eq_false c1
  by_cases c2 : 3 < rule
  · have HX : Hid (r = false) := Lib.hid (HRF.out (fun h => by have := h.1.2.1; omega))
    have d2 : decide (3 < rule) = true := decide_eq_true c2
    go_enter Tryz.func71, Tryz.ntmps71
    go_wp2_with fail
    go_ret
    exact ⟨ret_bb HX.out.symm, Below.refl _ _⟩
  have d2 : decide (3 < rule) = false := decide_eq_false c2
  by_cases c3 : (nl : Int) < 1
  · have HX : Hid (r = false) := Lib.hid (HRF.out (fun h => by have := h.1.2.2.1; omega))
    have d3 : decide ((nl : Int) < 1) = true := decide_eq_true c3
    go_enter Tryz.func71, Tryz.ntmps71
    go_wp2_with fail
    go_ret
    exact ⟨ret_bb HX.out.symm, Below.refl _ _⟩
  have d3 : decide ((nl : Int) < 1) = false := decide_eq_false c3
  by_cases c4 : 7 < (nl : Int)
  · have HX : Hid (r = false) := Lib.hid (HRF.out (fun h => by have := h.1.2.2.2; omega))
    have d4 : decide (7 < (nl : Int)) = true := decide_eq_true c4
    go_enter Tryz.func71, Tryz.ntmps71
    go_wp2_with fail
    go_ret
    exact ⟨ret_bb HX.out.symm, Below.refl _ _⟩
  have d4 : decide (7 < (nl : Int)) = false := decide_eq_false c4
  by_cases c5 : len = 0
  · have HX : Hid (r = false) := Lib.hid (HRF.out (fun h => HTZ.out c5 h.2.2.1))
    subst c5
    go_enter Tryz.func71, Tryz.ntmps71
    go_wp2_with fail
    go_ret
    exact ⟨ret_bb HX.out.symm, Below.refl _ _⟩
  have d5 : ((len : Int) == 0) = false := by rw [beq_eq_false_iff_ne]; omega
  obtain ⟨W, hW⟩ : ∃ W, w.alloc (.cells #[.bool false, .bool false, .bool false, .bool false, .bool false, .bool false, .bool false] 112) = W := ⟨_, rfl⟩
  have hBW : Below w.heap.size w W := by rw [← hW]; exact (Below.refl _ _).alloc (Nat.le_refl _) _
  have A0 : Hid (Blk w.heap.size (seenA []) W) := Lib.hid (by rw [← hW]; exact Blk.new w _ _)
  go_enter Tryz.func71, Tryz.ntmps71
  go_wp2_with fail
  go_loopw [36] (fun iv wr => ∃ k : Nat, k ≤ nl ∧ iv = .int .i64 k ∧ Below w.heap.size w wr ∧ Hid (Blk w.heap.size (seenA (lots.take k)) wr) ∧ Hid (BalP nl (lots.take k))) (fun iv _ => nl - (intOf iv).toNat)
  case atStart => exact ⟨0, by omega, rfl, hBW, A0, Lib.hid ⟨fun c hc => by simp at hc, by simp⟩⟩
  case round =>
    obtain ⟨k, hk, rfl, hbel, hB, hP⟩ := hrel
    by_cases hlt : k < nl
    · have hltz : (k : Int) < (nl : Int) := by omega
      obtain ⟨bb, off, hp0, hc1, hc2, hcell⟩ := (H.out.keep hbel).cellAt k (by rw [HNL.out]; exact hlt)
      subst hp0
      obtain ⟨y, hy⟩ : ∃ y, lots.getD k 0 = y := ⟨_, rfl⟩
      rw [hy] at hcell
      have HY := Lib.hid hy
      by_cases y0 : y < 0
      · have HX : Hid (r = false) := Lib.hid (HRF.out (fun g => bal_no_range (by rw [HNL.out]; exact hlt) HY.out (by omega) g.2.1))
        have e0 : decide (y < 0) = true := decide_eq_true y0
        clear hy
        go_wp2_with fail
        go_ret
        exact ⟨ret_bb HX.out.symm, hbel⟩
      have e0 : decide (y < 0) = false := decide_eq_false y0
      by_cases y1 : (nl : Int) ≤ y
      · have HX : Hid (r = false) := Lib.hid (HRF.out (fun g => bal_no_range (by rw [HNL.out]; exact hlt) HY.out (by omega) g.2.1))
        have e1 : decide ((nl : Int) ≤ y) = true := decide_eq_true y1
        clear hy
        go_wp2_with fail
        go_ret
        exact ⟨ret_bb HX.out.symm, hbel⟩
      have e1 : decide ((nl : Int) ≤ y) = false := decide_eq_false y1
      obtain ⟨yn, hyn⟩ : ∃ j : Nat, y = j := ⟨y.toNat, by omega⟩
      subst hyn
      have hy7 : yn < 7 := by omega
      have hy7z : (yn : Int) < 7 := by omega
      have hs := (hB.out.2.1 yn).trans (seenA_at _ hy7)
      have hfr := hB.out.2.2 yn
      have hts := take_snoc_i (l := lots) (k := k) (by rw [HNL.out]; exact hlt)
      rw [hy] at hts
      have HB2 : Hid (Blk w.heap.size (seenA (lots.take (k + 1))) (wr.setCell ⟨w.heap.size, yn, none⟩ (.bool true))) := Lib.hid (by rw [hts]; exact seenA_put hB.out hy7)
      clear hts
      cases hb : hasB (lots.take k) yn
      · rw [hb] at hs
        have HX := Lib.hid (BalP.snoc (by rw [HNL.out]; exact hlt) HY.out hP.out (by omega) (by omega) hb)
        clear hy hb
        go_wp2_with fail
        go_roundw
        case rel => exact ⟨k + 1, by omega, by go_num, hbel.setCell (Nat.le_refl _) _, HB2, HX⟩
        case measure => simp [intOf] <;> omega
      · rw [hb] at hs
        have HX : Hid (r = false) := Lib.hid (HRF.out (fun g => bal_no_dup (by rw [HNL.out]; exact hlt) HY.out hb g.2.1))
        clear hy hb
        go_wp2_with fail
        go_ret
        exact ⟨ret_bb HX.out.symm, hbel⟩
    · have hltz : ¬ (k : Int) < (nl : Int) := by omega
      have HB1 : Hid (BalP nl lots) := Lib.hid (by have := hP.out; rwa [List.take_of_length_le (by rw [HNL.out]; omega)] at this)
      clear hP hB hlt hk
      obtain ⟨wo, rfl⟩ : ∃ x, x = wr := ⟨_, rfl⟩
      go_wp2_with fail
      go_loopw [57] (fun iv wr => ∃ k : Nat, k ≤ len ∧ iv = .int .i64 k ∧ wr = wo ∧ Hid ((∀ c ∈ tied.take k, 0 ≤ c ∧ c < (nl : Int)) ∧ (tied.take k).Pairwise (· < ·))) (fun iv _ => len - (intOf iv).toNat)
      case atStart => exact ⟨0, by omega, rfl, rfl, Lib.hid ⟨fun c hc => by simp at hc, by simp⟩⟩
      case round =>
        obtain ⟨k, hk, rfl, rfl, hP⟩ := hrel
        by_cases hlt : k < len
        · have hltz : (k : Int) < (len : Int) := by omega
          obtain ⟨bb, off, hp0, hc1, hc2, hcell⟩ := (T.out.keep hbel).cellAt k (by rw [HN.out]; exact hlt)
          subst hp0
          obtain ⟨y, hy⟩ : ∃ y, tied.getD k 0 = y := ⟨_, rfl⟩
          rw [hy] at hcell
          have HY := Lib.hid hy
          by_cases y0 : y < 0
          · have HX : Hid (r = false) := Lib.hid (HRF.out (fun g => bal_no_range (by rw [HN.out]; exact hlt) HY.out (by omega) g.2.2.2.1))
            have e0 : decide (y < 0) = true := decide_eq_true y0
            clear hy
            go_wp2_with fail
            go_ret
            exact ⟨ret_bb HX.out.symm, hbel⟩
          have e0 : decide (y < 0) = false := decide_eq_false y0
          by_cases y1 : (nl : Int) ≤ y
          · have HX : Hid (r = false) := Lib.hid (HRF.out (fun g => bal_no_range (by rw [HN.out]; exact hlt) HY.out (by omega) g.2.2.2.1))
            have e1 : decide ((nl : Int) ≤ y) = true := decide_eq_true y1
            clear hy
            go_wp2_with fail
            go_ret
            exact ⟨ret_bb HX.out.symm, hbel⟩
          have e1 : decide ((nl : Int) ≤ y) = false := decide_eq_false y1
          have hts := take_snoc_i (l := tied) (k := k) (by rw [HN.out]; exact hlt)
          rw [hy] at hts
          have HRG : Hid (∀ c ∈ tied.take (k + 1), 0 ≤ c ∧ c < (nl : Int)) := Lib.hid (fun c hc => by
            rw [hts] at hc
            rcases List.mem_append.1 hc with g | g
            · exact hP.out.1 c g
            · rw [List.mem_singleton.1 g]; omega)
          clear hts
          cases k with
          | zero =>
            have hcell : wr.cell? ⟨bb, off, none⟩ = some (.int .i64 y) := hcell
            have HX := Lib.hid (And.intro HRG.out (pair_one tied))
            clear hy
            go_wp2_with fail
            go_roundw
            case rel => exact ⟨0 + 1, by omega, by go_num, by trivial, HX⟩
            case measure => simp [intOf] <;> omega
          | succ k =>
            obtain ⟨bb2, off2, hp2, _, _, hcell2⟩ := (T.out.keep hbel).cellAt k (by rw [HN.out]; omega)
            simp only [Option.some.injEq, Addr.mk.injEq, and_true] at hp2
            obtain ⟨rfl, rfl⟩ := hp2
            obtain ⟨x, hx⟩ : ∃ y, tied.getD k 0 = y := ⟨_, rfl⟩
            rw [hx] at hcell2
            have kz : (0 : Int) < ((k + 1 : Nat) : Int) := by omega
            have kz' : (0 : Int) < (k : Int) + 1 := by omega
            by_cases hxy : x < y
            · have HX := Lib.hid (And.intro HRG.out (pair_step (by rw [HN.out]; exact hlt) hx hy hP.out.2 hxy))
              have hxy' : ¬ y ≤ x := by omega
              clear hx hy
              go_wp2_with fail
              go_roundw
              case rel => exact ⟨k + 1 + 1, by omega, by go_num, by trivial, HX⟩
              case measure => simp [intOf] <;> omega
            · have HX : Hid (r = false) := Lib.hid (HRF.out (fun g => pair_no (by rw [HN.out]; exact hlt) hx hy hxy g.2.2.2.2))
              have hxy' : y ≤ x := by omega
              clear hx hy
              go_wp2_with fail
              go_ret
              exact ⟨ret_bb HX.out.symm, hbel⟩
        · have hltz : ¬ (k : Int) < (len : Int) := by omega
          have HX : Hid (r = true) := Lib.hid (HRT.out (by
            have h := hP.out
            rw [List.take_of_length_le (by rw [HN.out]; omega)] at h
            exact ⟨⟨by omega, by omega, by omega, by omega⟩, HB1.out, HTN.out c5, ⟨h.1, h.2.imp fun g => by omega⟩, h.2⟩))
          go_wp2_with fail
          go_ret
          exact ⟨ret_bb HX.out.symm, hbel⟩

end Go.Proofs.YtbnhgmikegdppaaGreat

/- The choice by lot: the order by priority, MaxFunc, MinFunc; Clone. -/
namespace Go.Proofs.Nums

theorem placeN_get {l : List Int} {x : Int} (h : x ∈ l) : l.getD (placeN l x) 0 = x := by
  induction l with
  | nil => simp at h
  | cons y l ih =>
    unfold placeN
    by_cases e : y = x
    · rw [if_pos e]; simpa using e
    · rw [if_neg e]
      have := ih (by rcases List.mem_cons.1 h with g | g; exact absurd g.symm e; exact g)
      simpa using this
theorem placeN_inj {l : List Int} {x y : Int} (hx : x ∈ l) (hy : y ∈ l) (h : placeN l x = placeN l y) : x = y := by
  rw [← placeN_get hx, h, placeN_get hy]
theorem pick_snoc {lots : List Int} {least : Bool} {p : List Int} (hp : p ≠ []) (x : Int) : pickS lots least (p ++ [x]) = pickStep lots least (pickS lots least p) x := by
  cases p with
  | nil => exact absurd rfl hp
  | cons a t => simp [pickS, List.foldl_append]
theorem pick_mem0 {lots : List Int} {least : Bool} : ∀ (t : List Int) (a : Int), t.foldl (pickStep lots least) a ∈ a :: t := by
  intro t
  induction t with
  | nil => intro a; simp
  | cons b t ih =>
    intro a
    rw [List.foldl_cons]
    have := ih (pickStep lots least a b)
    rcases List.mem_cons.1 this with g | g
    · rw [g]; unfold pickStep; split <;> simp
    · simp [g]
theorem pick_mem {lots : List Int} {least : Bool} {p : List Int} (hp : p ≠ []) : pickS lots least p ∈ p := by
  cases p with
  | nil => exact absurd rfl hp
  | cons a t => exact pick_mem0 t a
theorem pick_take {lots : List Int} {least : Bool} {l : List Int} {k : Nat} {x : Int} (hk : 0 < k) (h : k < l.length) (hx : l.getD k 0 = x) : pickS lots least (l.take (k + 1)) = pickStep lots least (pickS lots least (l.take k)) x := by
  rw [take_snoc_i h, hx, pick_snoc]
  intro g
  have := congrArg List.length g
  rw [List.length_take, List.length_nil] at this
  omega
theorem take_ne {l : List Int} {k : Nat} (hk : 0 < k) (h : k ≤ l.length) : l.take k ≠ [] := by
  intro g
  have := congrArg List.length g
  rw [List.length_take, List.length_nil] at this
  omega
/-- What the step sees: the best so far and the next differ in their places. -/
theorem pick_apart {lots : List Int} {least : Bool} {l : List Int} (hn : l.Nodup) (hm : ∀ x ∈ l, x ∈ lots) {k : Nat} {x : Int} (hk : 0 < k) (h : k < l.length) (hx : l.getD k 0 = x) :
    pickS lots least (l.take k) ∈ lots ∧ x ∈ lots ∧ placeN lots (pickS lots least (l.take k)) ≠ placeN lots x := by
  have h1 := pick_mem (lots := lots) (least := least) (take_ne hk (Nat.le_of_lt h))
  have h2 := mem_getD h hx
  refine ⟨hm _ (List.mem_of_mem_take h1), hm _ h2, fun e => ?_⟩
  have e2 := placeN_inj (hm _ (List.mem_of_mem_take h1)) (hm _ h2) e
  have := nodup_take hn (k + 1)
  rw [take_snoc_i h, hx, List.nodup_append] at this
  exact this.2.2 _ h1 x (by simp) e2

end Go.Proofs.Nums
namespace Go.Proofs.YtbnhgmikegdppaaGreat
open Go.RowKit Go.Proofs.Kit Go.Proofs.Nums

theorem indexZ_mem {l : List Int} {x : Int} (h : x ∈ l) : indexZ l x = (placeN l x : Int) := by unfold indexZ; rw [if_pos h]

set_option maxHeartbeats 2000000 in
theorem prio_c {vl : Value} {lots : List Int} {w : World} {K : Nat} (hK : w.cell? ⟨K, 0, none⟩ = some vl) (hl : IntsAt w vl lots) {x y : Int} (hx : x ∈ lots) (hy : y ∈ lots) (hll : lots.length ≤ 1000) :
    Calls Tryz.prog 74 #[.int .i64 x, .int .i64 y, .pointer (some ⟨K, 0, none⟩)] w fun e w' => e = .returned (.int .i64 ((placeN lots x : Int) - (placeN lots y : Int))) ∧ Below w.heap.size w w' := by
  have IX : Hid (∀ q, Calls Tryz.prog 75 #[vl, .int .i64 x] (w.drewN q) fun e w' => e = .returned (.int .i64 (placeN lots x : Int)) ∧ w' = w.drewN q) := Lib.hid (fun q => (index_c (hl.keep (below_drewN (Below.refl _ _) q)) x).mono fun _ _ ⟨h1, h2⟩ => ⟨by rw [h1, indexZ_mem hx], h2.symm⟩)
  have IY : Hid (∀ q, Calls Tryz.prog 75 #[vl, .int .i64 y] (w.drewN q) fun e w' => e = .returned (.int .i64 (placeN lots y : Int)) ∧ w' = w.drewN q) := Lib.hid (fun q => (index_c (hl.keep (below_drewN (Below.refl _ _) q)) y).mono fun _ _ ⟨h1, h2⟩ => ⟨by rw [h1, indexZ_mem hy], h2.symm⟩)
  have p1 := placeN_le lots x
  have p2 := placeN_le lots y
  obtain ⟨p, c, rfl⟩ := hl.shape
  obtain ⟨a, ha⟩ : ∃ a, placeN lots x = a := ⟨_, rfl⟩
  obtain ⟨b, hb⟩ : ∃ a, placeN lots y = a := ⟨_, rfl⟩
  rw [ha] at IX p1 ⊢
  rw [hb] at IY p2 ⊢
  obtain ⟨d, hd⟩ : ∃ d : Int, (a : Int) - (b : Int) = d := ⟨_, rfl⟩
  rw [hd]
  have hwd : IntKind.i64.wrap d = d := w64 (by omega) (by omega)
  clear hl hx hy hll ha hb p1 p2
  go_enter Tryz.func74, Tryz.ntmps74
  go_wp2_with fail
  go_quiet ((go_at_call 75; first | with_reducible exact Calls.quiet_of_same (IX.out _) | with_reducible exact Calls.quiet_of_same (IY.out _)))
  go_wp2_with fail
  go_ret
  exact ⟨ret_ii (by first | rfl | omega | (rw [hwd])), below_drewN (Below.refl _ _) _⟩

set_option maxRecDepth 100000 in
set_option maxHeartbeats 2000000 in
theorem maxfunc_c {v vl : Value} {l lots : List Int} {w : World} {K : Nat} (hv : IntsAt w v l) (hK : w.cell? ⟨K, 0, none⟩ = some vl) (hl : IntsAt w vl lots) (hll : lots.length ≤ 1000) (hln : l.length ≤ 1000) (hne : l ≠ []) (hnd : l.Nodup) (hm : ∀ x ∈ l, x ∈ lots) :
    Calls Tryz.prog 76 #[v, .func (.func 74) #[] #[.pointer (some ⟨K, 0, none⟩)]] w fun e w' => e = .returned (.int .i64 (pickS lots true l)) ∧ Below w.heap.size w w' := by
  have PR : Hid (∀ w', Below w.heap.size w w' → ∀ x y, x ∈ lots → y ∈ lots → Calls Tryz.prog 74 #[.int .i64 x, .int .i64 y, .pointer (some ⟨K, 0, none⟩)] w' fun e w'' => e = .returned (.int .i64 ((placeN lots x : Int) - (placeN lots y : Int))) ∧ Below w'.heap.size w' w'') := Lib.hid (fun w' hb x y hx hy => prio_c (cell_keep hb hK) (hl.keep hb) hx hy hll)
  have AP := Lib.hid (fun k x (hk : 0 < k) (h : k < l.length) (hx : l.getD k 0 = x) => pick_apart (least := true) hnd hm hk h hx)
  have ST := Lib.hid (fun k x (hk : 0 < k) (h : k < l.length) (hx : l.getD k 0 = x) => pick_take (lots := lots) (least := true) hk h hx)
  have H := Lib.hid hv
  have hlen0 : 0 < l.length := by
    cases l with
    | nil => exact absurd rfl hne
    | cons a t => simp
  obtain ⟨p, c, rfl⟩ := hv.shape
  obtain ⟨len, hlen⟩ : ∃ n, l.length = n := ⟨_, rfl⟩
  have HN := Lib.hid hlen
  have H0 : Hid (l.getD 0 0 = pickS lots true (l.take 1)) := Lib.hid (by
    cases l with
    | nil => exact absurd rfl hne
    | cons a t => simp [pickS])
  rw [hlen] at hln H hlen0 AP ST ⊢
  obtain ⟨bb, off, hp0, hc1, hc2, hcell⟩ := H.out.cellAt 0 (by rw [HN.out]; exact hlen0)
  subst hp0
  obtain ⟨m0, hm0⟩ : ∃ m, l.getD 0 0 = m := ⟨_, rfl⟩
  rw [hm0] at hcell H0
  have hcell : w.cell? ⟨bb, off, none⟩ = some (.int .i64 m0) := hcell
  have hlz : ¬ (len : Int) < 1 := by omega
  have hlz0 : (0 : Int) < (len : Int) := by omega
  clear hv hK hl hne hnd hm hlen hm0
  go_enter Tryz.func76, Tryz.ntmps76
  go_wp2_with fail
  go_loopw [5, 6] (fun mv iv wr => ∃ k : Nat, ∃ m : Int, 1 ≤ k ∧ k ≤ len ∧ iv = .int .i64 k ∧ mv = .int .i64 m ∧ Below w.heap.size w wr ∧ Hid (m = pickS lots true (l.take k))) (fun _ iv _ => len - (intOf iv).toNat)
  case atStart => exact ⟨1, m0, by omega, by omega, rfl, rfl, Below.refl _ _, H0⟩
  case round =>
    obtain ⟨k, m, hk1, hk, rfl, rfl, hbel, hP⟩ := hrel
    by_cases hlt : k < len
    · have hltz : (k : Int) < (len : Int) := by omega
      obtain ⟨bb2, off2, hp2, _, _, hcellk⟩ := (H.out.keep hbel).cellAt k (by rw [HN.out]; exact hlt)
      simp only [Option.some.injEq, Addr.mk.injEq, and_true] at hp2
      obtain ⟨rfl, rfl⟩ := hp2
      obtain ⟨x, hx⟩ : ∃ y, l.getD k 0 = y := ⟨_, rfl⟩
      rw [hx] at hcellk
      obtain ⟨ap1, ap2, ap3⟩ := AP.out k x hk1 hlt hx
      rw [← hP.out] at ap1 ap3
      have hst := ST.out k x hk1 hlt hx
      rw [← hP.out] at hst
      unfold pickStep at hst
      have C := PR.out wr hbel x m ap2 ap1
      obtain ⟨a, ha⟩ : ∃ a, placeN lots x = a := ⟨_, rfl⟩
      obtain ⟨b, hb⟩ : ∃ a, placeN lots m = a := ⟨_, rfl⟩
      rw [ha, hb] at C
      rw [ha, hb] at hst
      rw [ha, hb] at ap3
      obtain ⟨d, hd⟩ : ∃ d : Int, (a : Int) - (b : Int) = d := ⟨_, rfl⟩
      rw [hd] at C
      have C := Lib.hid C
      by_cases hab : b < a
      · have hd0 : 0 < d := by omega
        have HX : Hid (x = pickS lots true (l.take (k + 1))) := Lib.hid (by rw [hst, decide_eq_true hab]; rfl)
        clear hst ap1 ap2 ap3 ha hb hd hx
        go_wp2_with (go_at_call 74; ((with_reducible refine C.out.mono ?_); rintro e w1 ⟨rfl, hb1⟩; have hB1 := bel2' hbel hb1; have hck := cell_keep hb1 hcellk))
        go_roundw
        case rel => exact ⟨k + 1, x, by omega, by omega, by go_num, rfl, hB1, HX⟩
        case measure => simp [intOf] <;> omega
      · have hd0 : d < 0 := by omega
        have HX : Hid (m = pickS lots true (l.take (k + 1))) := Lib.hid (by rw [hst, decide_eq_false hab]; rfl)
        clear hst ap1 ap2 ap3 ha hb hd hx
        go_wp2_with (go_at_call 74; ((with_reducible refine C.out.mono ?_); rintro e w1 ⟨rfl, hb1⟩; have hB1 := bel2' hbel hb1; have hck := cell_keep hb1 hcellk))
        go_roundw
        case rel => exact ⟨k + 1, m, by omega, by omega, by go_num, rfl, hB1, HX⟩
        case measure => simp [intOf] <;> omega
    · have hltz : ¬ (k : Int) < (len : Int) := by omega
      have HX : Hid (m = pickS lots true l) := Lib.hid (by rw [hP.out, List.take_of_length_le (by rw [HN.out]; omega)])
      go_wp2_with fail
      go_ret
      exact ⟨ret_ii HX.out, hbel⟩

set_option maxRecDepth 100000 in
set_option maxHeartbeats 2000000 in
theorem minfunc_c {v vl : Value} {l lots : List Int} {w : World} {K : Nat} (hv : IntsAt w v l) (hK : w.cell? ⟨K, 0, none⟩ = some vl) (hl : IntsAt w vl lots) (hll : lots.length ≤ 1000) (hln : l.length ≤ 1000) (hne : l ≠ []) (hnd : l.Nodup) (hm : ∀ x ∈ l, x ∈ lots) :
    Calls Tryz.prog 77 #[v, .func (.func 74) #[] #[.pointer (some ⟨K, 0, none⟩)]] w fun e w' => e = .returned (.int .i64 (pickS lots false l)) ∧ Below w.heap.size w w' := by
  have PR : Hid (∀ w', Below w.heap.size w w' → ∀ x y, x ∈ lots → y ∈ lots → Calls Tryz.prog 74 #[.int .i64 x, .int .i64 y, .pointer (some ⟨K, 0, none⟩)] w' fun e w'' => e = .returned (.int .i64 ((placeN lots x : Int) - (placeN lots y : Int))) ∧ Below w'.heap.size w' w'') := Lib.hid (fun w' hb x y hx hy => prio_c (cell_keep hb hK) (hl.keep hb) hx hy hll)
  have AP := Lib.hid (fun k x (hk : 0 < k) (h : k < l.length) (hx : l.getD k 0 = x) => pick_apart (least := false) hnd hm hk h hx)
  have ST := Lib.hid (fun k x (hk : 0 < k) (h : k < l.length) (hx : l.getD k 0 = x) => pick_take (lots := lots) (least := false) hk h hx)
  have H := Lib.hid hv
  have hlen0 : 0 < l.length := by
    cases l with
    | nil => exact absurd rfl hne
    | cons a t => simp
  obtain ⟨p, c, rfl⟩ := hv.shape
  obtain ⟨len, hlen⟩ : ∃ n, l.length = n := ⟨_, rfl⟩
  have HN := Lib.hid hlen
  have H0 : Hid (l.getD 0 0 = pickS lots false (l.take 1)) := Lib.hid (by
    cases l with
    | nil => exact absurd rfl hne
    | cons a t => simp [pickS])
  rw [hlen] at hln H hlen0 AP ST ⊢
  obtain ⟨bb, off, hp0, hc1, hc2, hcell⟩ := H.out.cellAt 0 (by rw [HN.out]; exact hlen0)
  subst hp0
  obtain ⟨m0, hm0⟩ : ∃ m, l.getD 0 0 = m := ⟨_, rfl⟩
  rw [hm0] at hcell H0
  have hcell : w.cell? ⟨bb, off, none⟩ = some (.int .i64 m0) := hcell
  have hlz : ¬ (len : Int) < 1 := by omega
  have hlz0 : (0 : Int) < (len : Int) := by omega
  clear hv hK hl hne hnd hm hlen hm0
  go_enter Tryz.func77, Tryz.ntmps77
  go_wp2_with fail
  go_loopw [5, 6] (fun mv iv wr => ∃ k : Nat, ∃ m : Int, 1 ≤ k ∧ k ≤ len ∧ iv = .int .i64 k ∧ mv = .int .i64 m ∧ Below w.heap.size w wr ∧ Hid (m = pickS lots false (l.take k))) (fun _ iv _ => len - (intOf iv).toNat)
  case atStart => exact ⟨1, m0, by omega, by omega, rfl, rfl, Below.refl _ _, H0⟩
  case round =>
    obtain ⟨k, m, hk1, hk, rfl, rfl, hbel, hP⟩ := hrel
    by_cases hlt : k < len
    · have hltz : (k : Int) < (len : Int) := by omega
      obtain ⟨bb2, off2, hp2, _, _, hcellk⟩ := (H.out.keep hbel).cellAt k (by rw [HN.out]; exact hlt)
      simp only [Option.some.injEq, Addr.mk.injEq, and_true] at hp2
      obtain ⟨rfl, rfl⟩ := hp2
      obtain ⟨x, hx⟩ : ∃ y, l.getD k 0 = y := ⟨_, rfl⟩
      rw [hx] at hcellk
      obtain ⟨ap1, ap2, ap3⟩ := AP.out k x hk1 hlt hx
      rw [← hP.out] at ap1 ap3
      have hst := ST.out k x hk1 hlt hx
      rw [← hP.out] at hst
      unfold pickStep at hst
      have C := PR.out wr hbel x m ap2 ap1
      obtain ⟨a, ha⟩ : ∃ a, placeN lots x = a := ⟨_, rfl⟩
      obtain ⟨b, hb⟩ : ∃ a, placeN lots m = a := ⟨_, rfl⟩
      rw [ha, hb] at C
      rw [ha, hb] at hst
      rw [ha, hb] at ap3
      obtain ⟨d, hd⟩ : ∃ d : Int, (a : Int) - (b : Int) = d := ⟨_, rfl⟩
      rw [hd] at C
      have C := Lib.hid C
      by_cases hab : b < a
      · have hd0 : 0 < d := by omega
        have HX : Hid (m = pickS lots false (l.take (k + 1))) := Lib.hid (by rw [hst, decide_eq_true hab]; rfl)
        clear hst ap1 ap2 ap3 ha hb hd hx
        go_wp2_with (go_at_call 74; ((with_reducible refine C.out.mono ?_); rintro e w1 ⟨rfl, hb1⟩; have hB1 := bel2' hbel hb1; have hck := cell_keep hb1 hcellk))
        go_roundw
        case rel => exact ⟨k + 1, m, by omega, by omega, by go_num, rfl, hB1, HX⟩
        case measure => simp [intOf] <;> omega
      · have hd0 : d < 0 := by omega
        have HX : Hid (x = pickS lots false (l.take (k + 1))) := Lib.hid (by rw [hst, decide_eq_false hab]; rfl)
        clear hst ap1 ap2 ap3 ha hb hd hx
        go_wp2_with (go_at_call 74; ((with_reducible refine C.out.mono ?_); rintro e w1 ⟨rfl, hb1⟩; have hB1 := bel2' hbel hb1; have hck := cell_keep hb1 hcellk))
        go_roundw
        case rel => exact ⟨k + 1, x, by omega, by omega, by go_num, rfl, hB1, HX⟩
        case measure => simp [intOf] <;> omega
    · have hltz : ¬ (k : Int) < (len : Int) := by omega
      have HX : Hid (m = pickS lots false l) := Lib.hid (by rw [hP.out, List.take_of_length_le (by rw [HN.out]; omega)])
      go_wp2_with fail
      go_ret
      exact ⟨ret_ii HX.out, hbel⟩

set_option maxHeartbeats 1000000 in
theorem iclone_c {v : Value} {l : List Int} {w : World} (h : IntsAt w v l) (hl : l.length ≤ 1000000000) :
    Calls Tryz.prog 72 #[v] w fun e w' => ∃ v', e = .returned v' ∧ IntsAt w' v' l ∧ Below w.heap.size w w' := by
  have own0 : ∀ w : World, (w.alloc (.cells #[] 3)).ownsRow w.heap.size 3 1 (.slice (some ⟨w.heap.size, 0, none⟩) 0 0) 0 [] := fun w =>
    World.ownsRow_lit w #[] 0 (Nat.le_refl _) (Nat.zero_le _) rfl
  have heqn := fun (w : World) (a : Option Addr) (n c : Nat) => Lib.run_eql_slice_nil (P := Tryz.prog) w 26 3 a n c 0 0 Tryz.underlying26
  rcases RowAt.cases h with ⟨h0, p, cap, rfl, _, h3⟩ | ⟨h1, b, off, cap, rfl, hc, hm, hb, hcell⟩
  · obtain rfl : l = [] := by simpa using h0
    cases p with
    | none =>
      obtain rfl := h3 rfl
      have H := Lib.hid h
      clear h hl
      go_enter Tryz.func72, Tryz.ntmps72
      go_wp2_with fail
      go_ret
      exact ⟨_, rfl, H.out, Below.refl _ _⟩
    | some q =>
      have H := Lib.hid h
      have O := Lib.hid (own0 w)
      clear h own0 hl
      go_enter Tryz.func72, Tryz.ntmps72
      go_wp2_with (at_builtin; (refine append_row erI (base := w.heap.size) (n := 0) (xs := []) (news := []) (by rfl) (by rfl) O.out (by rfl) (by rfl) (by rfl) (fun j u h => by simp at h) (fun u h => by simp at h) (by omega) (by omega) (by simp) ?_); intro v' w1 hown1 _ hb1)
      go_ret
      exact ⟨_, rfl, by have g := RowAt.owned hown1; unfold IntsAt; simpa using g, (below_new hb1)⟩
  · have H := Lib.hid h
    have O := Lib.hid (own0 w)
    have hcells : ∀ j u, (l.map (Value.int .i64))[j]? = some u → (w.alloc (.cells #[] 3)).cell? ((⟨b, off, none⟩ : Addr).add j) = some u := fun j u hj => by
      rw [Addr.add_lit]
      exact cell_alloc_old (hcell j u hj)
    have HCS := Lib.hid hcells
    have HO := Lib.hid (ints_one l)
    clear h hcell own0 hcells
    go_enter Tryz.func72, Tryz.ntmps72
    go_wp2_with (at_builtin; go_must (refine append_row erI (base := w.heap.size) (n := 0) (xs := []) (news := l.map (Value.int .i64)) (by rfl) (by rfl) O.out (by rfl) (by rfl) (by rw [List.length_map, Nat.mul_one]) HCS.out HO.out (by simp; omega) (by simp; omega) (by simp) ?_); intro v' w1 hown1 _ hb1)
    go_ret
    exact ⟨_, rfl, by have g := RowAt.owned hown1; unfold IntsAt; simpa using g, (below_new hb1)⟩

end Go.Proofs.YtbnhgmikegdppaaGreat

/- Those with the least votes in a round: the reference's extreme. -/
namespace Go.Proofs.Nums
theorem all_snoc_i {lt : Int → Int → Bool} {l : List Int} {k : Nat} {x y : Int} (h : k < l.length) (hy : l.getD k 0 = y) : (l.take (k + 1)).all (fun z => !lt z x) = ((l.take k).all (fun z => !lt z x) && !lt y x) := by
  rw [take_snoc_i h, hy]
  simp
theorem filter_snoc_i {f : Int → Bool} {l : List Int} {k : Nat} {y : Int} (h : k < l.length) (hy : l.getD k 0 = y) : (l.take (k + 1)).filter f = (l.take k).filter f ++ (if f y = true then [y] else []) := by
  rw [take_snoc_i h, hy, List.filter_append]
  congr 1
  cases hf : f y <;> simp [hf]
end Go.Proofs.Nums
namespace Go.Proofs.YtbnhgmikegdppaaGreat
open Go.RowKit Go.Proofs.Kit Go.Proofs.Nums

set_option maxRecDepth 100000 in
set_option maxHeartbeats 16000000 in
theorem extreme_true {vv vl : Value} {v : List Q} {l : List Int} {w : World} (hv : RatsAt w vv v) (hl : IntsAt w vl l) (hr : ∀ x ∈ l, 0 ≤ x ∧ x < 1000) (hln : l.length ≤ 1000) :
    Calls Tryz.prog 61 #[vv, vl, .bool true] w fun e w' => ∃ v', e = .returned v' ∧ IntsAt w' v' (extA (ltV v true) l) ∧ Below w.heap.size w w' := by
  have SH := Lib.hid hv.shs
  have HV := Lib.hid hv
  have HL := Lib.hid hl
  have HR := Lib.hid hr
  obtain ⟨p, c, rfl⟩ := hl.shape
  obtain ⟨p', c', rfl⟩ := hv.shp
  obtain ⟨len, hlen⟩ : ∃ n, l.length = n := ⟨_, rfl⟩
  obtain ⟨nv, hnv⟩ : ∃ n, v.length = n := ⟨_, rfl⟩
  have HN := Lib.hid hlen
  rw [hlen] at hln HL ⊢
  rw [hnv] at HV ⊢
  clear hv hl hr hlen hnv
  go_enter Tryz.func61, Tryz.ntmps61
  go_wp2_with fail
  go_loopw [7, 8] (fun ov iv wr => ∃ k m : Nat, ∃ o : List Int, k ≤ len ∧ m ≤ k ∧ iv = .int .i64 k ∧ wr.ownsRow w.heap.size 3 1 ov m (o.map (Value.int .i64)) ∧ Below w.heap.size w wr ∧ Hid (o = (l.take k).filter fun c => l.all fun k => !ltV v true k c)) (fun _ iv _ => len - (intOf iv).toNat)
  case atStart => exact ⟨0, 0, [], by omega, by omega, rfl, World.ownsRow_nil _ _ _ _, Below.refl _ _, Lib.hid rfl⟩
  case round =>
    obtain ⟨k, m, o, hk, hm, rfl, hown, hbel, hP⟩ := hrel
    obtain ⟨wo, rfl⟩ : ∃ x, x = wr := ⟨_, rfl⟩
    obtain ⟨p1, c1, rfl, hmc, hcm⟩ := own_shape hown
    by_cases hlt : k < len
    · have hltz : (k : Int) < (len : Int) := by omega
      obtain ⟨bb, off, hp0, hc1, hc2, hcell⟩ := (HL.out.keep hbel).cellAt k (by rw [HN.out]; exact hlt)
      subst hp0
      have hmem := HR.out (l.getD k 0) (mem_getD (by rw [HN.out]; exact hlt) rfl)
      obtain ⟨y, hy⟩ : ∃ y, l.getD k 0 = y := ⟨_, rfl⟩
      rw [hy] at hcell hmem
      obtain ⟨cn, hcn⟩ : ∃ j : Nat, y = j := ⟨y.toNat, by omega⟩
      subst hcn
      have HS := Lib.hid (filter_snoc_i (f := fun c => l.all fun k => !ltV v true k c) (by rw [HN.out]; exact hlt) hy)
      have hcl : cn < 1000 := by omega
      obtain ⟨qc, hqc⟩ : ∃ q, vote v cn = q := ⟨_, rfl⟩
      have VC : Hid (∀ w', Below w.heap.size w w' → Calls Tryz.prog 81 #[.slice p' nv c', .int .i64 cn] w' (GivesS qc w')) := Lib.hid (fun w' hb => by
        rw [← hqc]; exact number_c (HV.out.keep hb) cn hcl)
      have HQC := Lib.hid hqc
      have CI := Lib.hid hcell
      clear hy hmem hqc
      go_wp2_with fail
      go_loopw [9, 10] (fun bv jv wq => ∃ j : Nat, ∃ best : Bool, j ≤ len ∧ jv = .int .i64 j ∧ bv = .bool best ∧ Below wo.heap.size wo wq ∧ Hid (best = (l.take j).all (fun z => !ltV v true z cn))) (fun _ jv _ => len - (intOf jv).toNat)
      case atStart => exact ⟨0, true, by omega, rfl, rfl, Below.refl _ _, Lib.hid rfl⟩
      case round =>
        obtain ⟨j, best, hj, rfl, rfl, hbq, hB⟩ := hrel
        have hbelq := bel2' hbel hbq
        by_cases hjl : j < len
        · have hjz : (j : Int) < (len : Int) := by omega
          obtain ⟨bb2, off2, hp2, _, _, hcellj⟩ := (HL.out.keep hbelq).cellAt j (by rw [HN.out]; exact hjl)
          simp only [Option.some.injEq, Addr.mk.injEq, and_true] at hp2
          obtain ⟨rfl, rfl⟩ := hp2
          have hcellk := cell_keep hbq CI.out
          have hmem := HR.out (l.getD j 0) (mem_getD (by rw [HN.out]; exact hjl) rfl)
          obtain ⟨y2, hy2⟩ : ∃ y, l.getD j 0 = y := ⟨_, rfl⟩
          rw [hy2] at hcellj hmem
          obtain ⟨bn, hbn⟩ : ∃ j : Nat, y2 = j := ⟨y2.toNat, by omega⟩
          subst hbn
          have HJ := Lib.hid (all_snoc_i (lt := ltV v true) (x := cn) (by rw [HN.out]; exact hjl) hy2)
          have hbl : bn < 1000 := by omega
          have hbD := hbelq.drew
          obtain ⟨qb, hqb⟩ : ∃ q, vote v bn = q := ⟨_, rfl⟩
          have VB : Hid (∀ w', Below w.heap.size w w' → Calls Tryz.prog 81 #[.slice p' nv c', .int .i64 bn] w' (GivesS qb w')) := Lib.hid (fun w' hb => by
            rw [← hqb]; exact number_c (HV.out.keep hb) bn hbl)
          obtain ⟨z, hz, HZ⟩ := ordS (v := v) true bn cn
          rw [HQC.out, hqb] at hz
          obtain ⟨z0, hz0⟩ : ∃ z, cmpS qb qc = z := ⟨_, rfl⟩
          rw [hz0] at hz
          have CM : Hid (∀ w' p1 l1 k1 p2 l2 k2 p3 l3 k3 p4 l4 k4, RatN w' (.agg #[.bool false, .slice p1 l1 k1, .slice p2 l2 k2]) qb 2 → RatN w' (.agg #[.bool false, .slice p3 l3 k3, .slice p4 l4 k4]) qc 2 → Calls Tryz.prog 80 #[.agg #[.bool false, .slice p1 l1 k1, .slice p2 l2 k2], .agg #[.bool false, .slice p3 l3 k3, .slice p4 l4 k4]] w' fun e w'' => e = .returned (.int .i64 z0) ∧ Below w'.heap.size w' w'') := Lib.hid (fun w' p1 l1 k1 p2 l2 k2 p3 l3 k3 p4 l4 k4 h1 h2 => by
            have := compare_c h1 (by rw [← hqb]; exact vote_sh SH.out _) h2 (by rw [← HQC.out]; exact vote_sh SH.out _)
            rw [hz0] at this
            exact this)
          have HZ : Hid ((z0 = -1 ∧ ltV v true bn cn = true) ∨ (z0 = 1 ∧ ltV v true bn cn = false) ∨ (z0 = 0 ∧ ltV v true bn cn = false)) := Lib.hid (by
            have e : z0 = z := by rw [← hz]; rfl
            rw [e]
            rcases HZ with ⟨g1, g2⟩ | ⟨g1, g2, _⟩ | ⟨g1, g2, _⟩
            · exact .inl ⟨g1, g2⟩
            · exact .inr (.inl ⟨g1, g2⟩)
            · exact .inr (.inr ⟨g1, g2⟩))
          have S0 : Hid (wr.drew.cell? ⟨bb, off + j, none⟩ = some (.int .i64 bn) ∧ wr.drew.cell? ⟨bb, off + k, none⟩ = some (.int .i64 cn)) := Lib.hid ⟨hcellj, hcellk⟩
          clear hy2 hqb hz hz0 hmem
          go_wp2_with fail
          go_region_held3 (fun w' => w'.cell? ⟨bb, off + j, none⟩ = some (.int .i64 bn) ∧ w'.cell? ⟨bb, off + k, none⟩ = some (.int .i64 cn))
            (first | exact S3.out | exact S2.out | exact S1.out | exact S0.out)
            (first
            | (go_at_call 81; ((with_reducible refine (VC.out _ hbD).mono ?_); rintro e w1 ⟨q1, i1, j1, q2, i2, j2, rfl, hvc, _, hbc⟩; have BC := bel2' hbD hbc; have S1 := Lib.hid (And.intro (cell_keep hbc S0.out.1) (cell_keep hbc S0.out.2))))
            | (go_at_call 81; ((with_reducible refine (VB.out _ hbD).mono ?_); rintro e w1 ⟨q3, i3, j3, q4, i4, j4, rfl, hvb, _, hbb⟩; have BB := bel2' hbD hbb; have S1 := Lib.hid (And.intro (cell_keep hbb S0.out.1) (cell_keep hbb S0.out.2))))
            | (go_at_call 81; ((with_reducible refine (VC.out _ BB).mono ?_); rintro e w2 ⟨q1, i1, j1, q2, i2, j2, rfl, hvc, _, hbc⟩; have B2 := bel2' BB hbc; have hvb := hvb.keep hbc; have S2 := Lib.hid (And.intro (cell_keep hbc S1.out.1) (cell_keep hbc S1.out.2))))
            | (go_at_call 81; ((with_reducible refine (VB.out _ BC).mono ?_); rintro e w2 ⟨q3, i3, j3, q4, i4, j4, rfl, hvb, _, hbb⟩; have B2 := bel2' BC hbb; have hvc := hvc.keep hbb; have S2 := Lib.hid (And.intro (cell_keep hbb S1.out.1) (cell_keep hbb S1.out.2))))
            | (go_at_call 80; ((with_reducible refine (CM.out _ _ _ _ _ _ _ _ _ _ _ _ _ hvb hvc).mono ?_); rintro e w3 ⟨rfl, hb3⟩; have S3 := Lib.hid (And.intro (cell_keep hb3 S2.out.1) (cell_keep hb3 S2.out.2)))))
          all_goals
            first | (have hbw := bel2' hbq.drew (bel2' (bel2' hbc hbb) hb3)) | (have hbw := bel2' hbq.drew (bel2' (bel2' hbb hbc) hb3))
            rcases HZ.out with ⟨hz, h1⟩ | ⟨hz, h1⟩ | ⟨hz, h1⟩
            · obtain rfl : z0 = -1 := by omega
              have HX : Hid (false = (l.take (j + 1)).all (fun z => !ltV v true z cn)) := Lib.hid (by rw [HJ.out, h1]; simp)
              clear h1 hz
              go_wp2_with fail
              go_roundw
              case rel => exact ⟨j + 1, false, by omega, by go_num, rfl, hbw, HX⟩
              case measure => simp [intOf] <;> omega
            · obtain rfl : z0 = 1 := by omega
              have HX : Hid (best = (l.take (j + 1)).all (fun z => !ltV v true z cn)) := Lib.hid (by rw [HJ.out, h1, hB.out]; simp)
              clear h1 hz
              go_wp2_with fail
              go_roundw
              case rel => exact ⟨j + 1, best, by omega, by go_num, rfl, hbw, HX⟩
              case measure => simp [intOf] <;> omega
            · obtain rfl : z0 = 0 := by omega
              have HX : Hid (best = (l.take (j + 1)).all (fun z => !ltV v true z cn)) := Lib.hid (by rw [HJ.out, h1, hB.out]; simp)
              clear h1 hz
              go_wp2_with fail
              go_roundw
              case rel => exact ⟨j + 1, best, by omega, by go_num, rfl, hbw, HX⟩
              case measure => simp [intOf] <;> omega
        · have hjz : ¬ (j : Int) < (len : Int) := by omega
          have hown2 := ownsRow_below hown hbq
          have hcellk := cell_keep hbq CI.out
          have HBA : Hid (best = l.all (fun z => !ltV v true z cn)) := Lib.hid (by rw [hB.out, List.take_of_length_le (by rw [HN.out]; omega)])
          cases best
          · have HX : Hid (o = (l.take (k + 1)).filter fun c => l.all fun k => !ltV v true k c) := Lib.hid (by rw [HS.out, hP.out, ← HBA.out]; simp)
            go_wp2_with fail
            go_roundw
            case rel => exact ⟨k + 1, m, o, by omega, by omega, by go_num, hown2, hbelq, HX⟩
            case measure => simp [intOf] <;> omega
          · have HX : Hid (o ++ [(cn : Int)] = (l.take (k + 1)).filter fun c => l.all fun k => !ltV v true k c) := Lib.hid (by rw [HS.out, hP.out, ← HBA.out]; simp)
            go_wp2_with (at_builtin; go_must (refine append_one erI rfl rfl hown2 rfl rfl rfl (by simp [Value.oneCell']) (by omega) (by omega) hbelq.size ?_); intro v' w4 hown1 _ hb1 hne1)
            go_roundw
            case rel =>
              refine ⟨k + 1, m + 1, o ++ [(cn : Int)], by omega, by omega, by go_num, ?_, hbelq.trans hb1, HX⟩
              rw [List.map_append]
              exact hown1
            case measure => simp [intOf] <;> omega
    · have hltz : ¬ (k : Int) < (len : Int) := by omega
      have HE : Hid (o = extA (ltV v true) l) := Lib.hid (by rw [hP.out, List.take_of_length_le (by rw [HN.out]; omega)]; rfl)
      have HI := Lib.hid (ints_owned hown)
      clear hown
      go_wp2_with fail
      go_ret
      exact ⟨_, rfl, by rw [← HE.out]; exact HI.out, hbel⟩

set_option maxRecDepth 100000 in
set_option maxHeartbeats 16000000 in
theorem extreme_false {vv vl : Value} {v : List Q} {l : List Int} {w : World} (hv : RatsAt w vv v) (hl : IntsAt w vl l) (hr : ∀ x ∈ l, 0 ≤ x ∧ x < 1000) (hln : l.length ≤ 1000) :
    Calls Tryz.prog 61 #[vv, vl, .bool false] w fun e w' => ∃ v', e = .returned v' ∧ IntsAt w' v' (extA (ltV v false) l) ∧ Below w.heap.size w w' := by
  have SH := Lib.hid hv.shs
  have HV := Lib.hid hv
  have HL := Lib.hid hl
  have HR := Lib.hid hr
  obtain ⟨p, c, rfl⟩ := hl.shape
  obtain ⟨p', c', rfl⟩ := hv.shp
  obtain ⟨len, hlen⟩ : ∃ n, l.length = n := ⟨_, rfl⟩
  obtain ⟨nv, hnv⟩ : ∃ n, v.length = n := ⟨_, rfl⟩
  have HN := Lib.hid hlen
  rw [hlen] at hln HL ⊢
  rw [hnv] at HV ⊢
  clear hv hl hr hlen hnv
  go_enter Tryz.func61, Tryz.ntmps61
  go_wp2_with fail
  go_loopw [7, 8] (fun ov iv wr => ∃ k m : Nat, ∃ o : List Int, k ≤ len ∧ m ≤ k ∧ iv = .int .i64 k ∧ wr.ownsRow w.heap.size 3 1 ov m (o.map (Value.int .i64)) ∧ Below w.heap.size w wr ∧ Hid (o = (l.take k).filter fun c => l.all fun k => !ltV v false k c)) (fun _ iv _ => len - (intOf iv).toNat)
  case atStart => exact ⟨0, 0, [], by omega, by omega, rfl, World.ownsRow_nil _ _ _ _, Below.refl _ _, Lib.hid rfl⟩
  case round =>
    obtain ⟨k, m, o, hk, hm, rfl, hown, hbel, hP⟩ := hrel
    obtain ⟨wo, rfl⟩ : ∃ x, x = wr := ⟨_, rfl⟩
    obtain ⟨p1, c1, rfl, hmc, hcm⟩ := own_shape hown
    by_cases hlt : k < len
    · have hltz : (k : Int) < (len : Int) := by omega
      obtain ⟨bb, off, hp0, hc1, hc2, hcell⟩ := (HL.out.keep hbel).cellAt k (by rw [HN.out]; exact hlt)
      subst hp0
      have hmem := HR.out (l.getD k 0) (mem_getD (by rw [HN.out]; exact hlt) rfl)
      obtain ⟨y, hy⟩ : ∃ y, l.getD k 0 = y := ⟨_, rfl⟩
      rw [hy] at hcell hmem
      obtain ⟨cn, hcn⟩ : ∃ j : Nat, y = j := ⟨y.toNat, by omega⟩
      subst hcn
      have HS := Lib.hid (filter_snoc_i (f := fun c => l.all fun k => !ltV v false k c) (by rw [HN.out]; exact hlt) hy)
      have hcl : cn < 1000 := by omega
      obtain ⟨qc, hqc⟩ : ∃ q, vote v cn = q := ⟨_, rfl⟩
      have VC : Hid (∀ w', Below w.heap.size w w' → Calls Tryz.prog 81 #[.slice p' nv c', .int .i64 cn] w' (GivesS qc w')) := Lib.hid (fun w' hb => by
        rw [← hqc]; exact number_c (HV.out.keep hb) cn hcl)
      have HQC := Lib.hid hqc
      have CI := Lib.hid hcell
      clear hy hmem hqc
      go_wp2_with fail
      go_loopw [9, 10] (fun bv jv wq => ∃ j : Nat, ∃ best : Bool, j ≤ len ∧ jv = .int .i64 j ∧ bv = .bool best ∧ Below wo.heap.size wo wq ∧ Hid (best = (l.take j).all (fun z => !ltV v false z cn))) (fun _ jv _ => len - (intOf jv).toNat)
      case atStart => exact ⟨0, true, by omega, rfl, rfl, Below.refl _ _, Lib.hid rfl⟩
      case round =>
        obtain ⟨j, best, hj, rfl, rfl, hbq, hB⟩ := hrel
        have hbelq := bel2' hbel hbq
        by_cases hjl : j < len
        · have hjz : (j : Int) < (len : Int) := by omega
          obtain ⟨bb2, off2, hp2, _, _, hcellj⟩ := (HL.out.keep hbelq).cellAt j (by rw [HN.out]; exact hjl)
          simp only [Option.some.injEq, Addr.mk.injEq, and_true] at hp2
          obtain ⟨rfl, rfl⟩ := hp2
          have hcellk := cell_keep hbq CI.out
          have hmem := HR.out (l.getD j 0) (mem_getD (by rw [HN.out]; exact hjl) rfl)
          obtain ⟨y2, hy2⟩ : ∃ y, l.getD j 0 = y := ⟨_, rfl⟩
          rw [hy2] at hcellj hmem
          obtain ⟨bn, hbn⟩ : ∃ j : Nat, y2 = j := ⟨y2.toNat, by omega⟩
          subst hbn
          have HJ := Lib.hid (all_snoc_i (lt := ltV v false) (x := cn) (by rw [HN.out]; exact hjl) hy2)
          have hbl : bn < 1000 := by omega
          have hbD := hbelq.drew
          obtain ⟨qb, hqb⟩ : ∃ q, vote v bn = q := ⟨_, rfl⟩
          have VB : Hid (∀ w', Below w.heap.size w w' → Calls Tryz.prog 81 #[.slice p' nv c', .int .i64 bn] w' (GivesS qb w')) := Lib.hid (fun w' hb => by
            rw [← hqb]; exact number_c (HV.out.keep hb) bn hbl)
          obtain ⟨z, hz, HZ⟩ := ordS (v := v) false bn cn
          rw [HQC.out, hqb] at hz
          obtain ⟨z0, hz0⟩ : ∃ z, cmpS qb qc = z := ⟨_, rfl⟩
          rw [hz0] at hz
          have CM : Hid (∀ w' p1 l1 k1 p2 l2 k2 p3 l3 k3 p4 l4 k4, RatN w' (.agg #[.bool false, .slice p1 l1 k1, .slice p2 l2 k2]) qb 2 → RatN w' (.agg #[.bool false, .slice p3 l3 k3, .slice p4 l4 k4]) qc 2 → Calls Tryz.prog 80 #[.agg #[.bool false, .slice p1 l1 k1, .slice p2 l2 k2], .agg #[.bool false, .slice p3 l3 k3, .slice p4 l4 k4]] w' fun e w'' => e = .returned (.int .i64 z0) ∧ Below w'.heap.size w' w'') := Lib.hid (fun w' p1 l1 k1 p2 l2 k2 p3 l3 k3 p4 l4 k4 h1 h2 => by
            have := compare_c h1 (by rw [← hqb]; exact vote_sh SH.out _) h2 (by rw [← HQC.out]; exact vote_sh SH.out _)
            rw [hz0] at this
            exact this)
          have HZ : Hid (((-z0) = -1 ∧ ltV v false bn cn = true) ∨ ((-z0) = 1 ∧ ltV v false bn cn = false) ∨ ((-z0) = 0 ∧ ltV v false bn cn = false)) := Lib.hid (by
            have e : (-z0) = z := by rw [← hz]; rfl
            rw [e]
            rcases HZ with ⟨g1, g2⟩ | ⟨g1, g2, _⟩ | ⟨g1, g2, _⟩
            · exact .inl ⟨g1, g2⟩
            · exact .inr (.inl ⟨g1, g2⟩)
            · exact .inr (.inr ⟨g1, g2⟩))
          have S0 : Hid (wr.drew.cell? ⟨bb, off + j, none⟩ = some (.int .i64 bn) ∧ wr.drew.cell? ⟨bb, off + k, none⟩ = some (.int .i64 cn)) := Lib.hid ⟨hcellj, hcellk⟩
          clear hy2 hqb hz hz0 hmem
          go_wp2_with fail
          go_region_held3 (fun w' => w'.cell? ⟨bb, off + j, none⟩ = some (.int .i64 bn) ∧ w'.cell? ⟨bb, off + k, none⟩ = some (.int .i64 cn))
            (first | exact S3.out | exact S2.out | exact S1.out | exact S0.out)
            (first
            | (go_at_call 81; ((with_reducible refine (VC.out _ hbD).mono ?_); rintro e w1 ⟨q1, i1, j1, q2, i2, j2, rfl, hvc, _, hbc⟩; have BC := bel2' hbD hbc; have S1 := Lib.hid (And.intro (cell_keep hbc S0.out.1) (cell_keep hbc S0.out.2))))
            | (go_at_call 81; ((with_reducible refine (VB.out _ hbD).mono ?_); rintro e w1 ⟨q3, i3, j3, q4, i4, j4, rfl, hvb, _, hbb⟩; have BB := bel2' hbD hbb; have S1 := Lib.hid (And.intro (cell_keep hbb S0.out.1) (cell_keep hbb S0.out.2))))
            | (go_at_call 81; ((with_reducible refine (VC.out _ BB).mono ?_); rintro e w2 ⟨q1, i1, j1, q2, i2, j2, rfl, hvc, _, hbc⟩; have B2 := bel2' BB hbc; have hvb := hvb.keep hbc; have S2 := Lib.hid (And.intro (cell_keep hbc S1.out.1) (cell_keep hbc S1.out.2))))
            | (go_at_call 81; ((with_reducible refine (VB.out _ BC).mono ?_); rintro e w2 ⟨q3, i3, j3, q4, i4, j4, rfl, hvb, _, hbb⟩; have B2 := bel2' BC hbb; have hvc := hvc.keep hbb; have S2 := Lib.hid (And.intro (cell_keep hbb S1.out.1) (cell_keep hbb S1.out.2))))
            | (go_at_call 80; ((with_reducible refine (CM.out _ _ _ _ _ _ _ _ _ _ _ _ _ hvb hvc).mono ?_); rintro e w3 ⟨rfl, hb3⟩; have S3 := Lib.hid (And.intro (cell_keep hb3 S2.out.1) (cell_keep hb3 S2.out.2)))))
          all_goals
            first | (have hbw := bel2' hbq.drew (bel2' (bel2' hbc hbb) hb3)) | (have hbw := bel2' hbq.drew (bel2' (bel2' hbb hbc) hb3))
            rcases HZ.out with ⟨hz, h1⟩ | ⟨hz, h1⟩ | ⟨hz, h1⟩
            · obtain rfl : z0 = 1 := by omega
              have HX : Hid (false = (l.take (j + 1)).all (fun z => !ltV v false z cn)) := Lib.hid (by rw [HJ.out, h1]; simp)
              clear h1 hz
              go_wp2_with fail
              go_roundw
              case rel => exact ⟨j + 1, false, by omega, by go_num, rfl, hbw, HX⟩
              case measure => simp [intOf] <;> omega
            · obtain rfl : z0 = -1 := by omega
              have HX : Hid (best = (l.take (j + 1)).all (fun z => !ltV v false z cn)) := Lib.hid (by rw [HJ.out, h1, hB.out]; simp)
              clear h1 hz
              go_wp2_with fail
              go_roundw
              case rel => exact ⟨j + 1, best, by omega, by go_num, rfl, hbw, HX⟩
              case measure => simp [intOf] <;> omega
            · obtain rfl : z0 = 0 := by omega
              have HX : Hid (best = (l.take (j + 1)).all (fun z => !ltV v false z cn)) := Lib.hid (by rw [HJ.out, h1, hB.out]; simp)
              clear h1 hz
              go_wp2_with fail
              go_roundw
              case rel => exact ⟨j + 1, best, by omega, by go_num, rfl, hbw, HX⟩
              case measure => simp [intOf] <;> omega
        · have hjz : ¬ (j : Int) < (len : Int) := by omega
          have hown2 := ownsRow_below hown hbq
          have hcellk := cell_keep hbq CI.out
          have HBA : Hid (best = l.all (fun z => !ltV v false z cn)) := Lib.hid (by rw [hB.out, List.take_of_length_le (by rw [HN.out]; omega)])
          cases best
          · have HX : Hid (o = (l.take (k + 1)).filter fun c => l.all fun k => !ltV v false k c) := Lib.hid (by rw [HS.out, hP.out, ← HBA.out]; simp)
            go_wp2_with fail
            go_roundw
            case rel => exact ⟨k + 1, m, o, by omega, by omega, by go_num, hown2, hbelq, HX⟩
            case measure => simp [intOf] <;> omega
          · have HX : Hid (o ++ [(cn : Int)] = (l.take (k + 1)).filter fun c => l.all fun k => !ltV v false k c) := Lib.hid (by rw [HS.out, hP.out, ← HBA.out]; simp)
            go_wp2_with (at_builtin; go_must (refine append_one erI rfl rfl hown2 rfl rfl rfl (by simp [Value.oneCell']) (by omega) (by omega) hbelq.size ?_); intro v' w4 hown1 _ hb1 hne1)
            go_roundw
            case rel =>
              refine ⟨k + 1, m + 1, o ++ [(cn : Int)], by omega, by omega, by go_num, ?_, hbelq.trans hb1, HX⟩
              rw [List.map_append]
              exact hown1
            case measure => simp [intOf] <;> omega
    · have hltz : ¬ (k : Int) < (len : Int) := by omega
      have HE : Hid (o = extA (ltV v false) l) := Lib.hid (by rw [hP.out, List.take_of_length_le (by rw [HN.out]; omega)]; rfl)
      have HI := Lib.hid (ints_owned hown)
      clear hown
      go_wp2_with fail
      go_ret
      exact ⟨_, rfl, by rw [← HE.out]; exact HI.out, hbel⟩

theorem extreme_c {vv vl : Value} {v : List Q} {l : List Int} {w : World} (hv : RatsAt w vv v) (hl : IntsAt w vl l) (hr : ∀ x ∈ l, 0 ≤ x ∧ x < 1000) (hln : l.length ≤ 1000) (least : Bool) :
    Calls Tryz.prog 61 #[vv, vl, .bool least] w fun e w' => ∃ v', e = .returned v' ∧ IntsAt w' v' (extA (ltV v least) l) ∧ Below w.heap.size w w' := by
  cases least
  · exact extreme_false hv hl hr hln
  · exact extreme_true hv hl hr hln

end Go.Proofs.YtbnhgmikegdppaaGreat
