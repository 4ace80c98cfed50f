/- Those with the least votes in a round: the reference's extreme. -/
import Derived.Test.YthplbhgbgcfogaaT8
namespace Go.Proofs.Nums
theorem all_snoc_i {lt : Int → Int → Bool} {l : List Int} {k : Nat} {x y : Int} (h : k < l.length) (hy : l.getD k 0 = y) : (l.take (k + 1)).all (fun z => !lt z x) = ((l.take k).all (fun z => !lt z x) && !lt y x) := by
  rw [take_snoc_i h, hy]
  simp
theorem filter_snoc_i {f : Int → Bool} {l : List Int} {k : Nat} {y : Int} (h : k < l.length) (hy : l.getD k 0 = y) : (l.take (k + 1)).filter f = (l.take k).filter f ++ (if f y = true then [y] else []) := by
  rw [take_snoc_i h, hy, List.filter_append]
  congr 1
  cases hf : f y <;> simp [hf]
end Go.Proofs.Nums
namespace Go.Proofs.Ythplbhgbgcfogaa
open Go.RowKit Go.Proofs.Kit Go.Proofs.Nums

set_option maxRecDepth 100000 in
set_option maxHeartbeats 16000000 in
theorem extreme_true {vv vl : Value} {v : List Q} {l : List Int} {w : World} (hv : RatsAt w vv v) (hl : IntsAt w vl l) (hr : ∀ x ∈ l, 0 ≤ x ∧ x < 1000) (hln : l.length ≤ 1000) :
    Calls Try.prog 32 #[vv, vl, .bool true] w fun e w' => ∃ v', e = .returned v' ∧ IntsAt w' v' (extA (ltV v true) l) ∧ Below w.heap.size w w' := by
  have SH := Lib.hid hv.shs
  have HV := Lib.hid hv
  have HL := Lib.hid hl
  have HR := Lib.hid hr
  obtain ⟨p, c, rfl⟩ := hl.shape
  obtain ⟨p', c', rfl⟩ := hv.shp
  obtain ⟨len, hlen⟩ : ∃ n, l.length = n := ⟨_, rfl⟩
  obtain ⟨nv, hnv⟩ : ∃ n, v.length = n := ⟨_, rfl⟩
  have HN := Lib.hid hlen
  rw [hlen] at hln HL ⊢
  rw [hnv] at HV ⊢
  clear hv hl hr hlen hnv
  go_enter Try.func32, Try.ntmps32
  go_wp2_with fail
  go_loopw [7, 8] (fun ov iv wr => ∃ k m : Nat, ∃ o : List Int, k ≤ len ∧ m ≤ k ∧ iv = .int .i64 k ∧ wr.ownsRow w.heap.size 3 1 ov m (o.map (Value.int .i64)) ∧ Below w.heap.size w wr ∧ Hid (o = (l.take k).filter fun c => l.all fun k => !ltV v true k c)) (fun _ iv _ => len - (intOf iv).toNat)
  case atStart => exact ⟨0, 0, [], by omega, by omega, rfl, World.ownsRow_nil _ _ _ _, Below.refl _ _, Lib.hid rfl⟩
  case round =>
    obtain ⟨k, m, o, hk, hm, rfl, hown, hbel, hP⟩ := hrel
    obtain ⟨wo, rfl⟩ : ∃ x, x = wr := ⟨_, rfl⟩
    obtain ⟨p1, c1, rfl, hmc, hcm⟩ := own_shape hown
    by_cases hlt : k < len
    · have hltz : (k : Int) < (len : Int) := by omega
      obtain ⟨bb, off, hp0, hc1, hc2, hcell⟩ := (HL.out.keep hbel).cellAt k (by rw [HN.out]; exact hlt)
      subst hp0
      have hmem := HR.out (l.getD k 0) (mem_getD (by rw [HN.out]; exact hlt) rfl)
      obtain ⟨y, hy⟩ : ∃ y, l.getD k 0 = y := ⟨_, rfl⟩
      rw [hy] at hcell hmem
      obtain ⟨cn, hcn⟩ : ∃ j : Nat, y = j := ⟨y.toNat, by omega⟩
      subst hcn
      have HS := Lib.hid (filter_snoc_i (f := fun c => l.all fun k => !ltV v true k c) (by rw [HN.out]; exact hlt) hy)
      have hcl : cn < 1000 := by omega
      obtain ⟨qc, hqc⟩ : ∃ q, vote v cn = q := ⟨_, rfl⟩
      have VC : Hid (∀ w', Below w.heap.size w w' → Calls Try.prog 45 #[.slice p' nv c', .int .i64 cn] w' (GivesS qc w')) := Lib.hid (fun w' hb => by
        rw [← hqc]; exact number_c (HV.out.keep hb) cn hcl)
      have HQC := Lib.hid hqc
      have CI := Lib.hid hcell
      clear hy hmem hqc
      go_wp2_with fail
      go_loopw [9, 10] (fun bv jv wq => ∃ j : Nat, ∃ best : Bool, j ≤ len ∧ jv = .int .i64 j ∧ bv = .bool best ∧ Below wo.heap.size wo wq ∧ Hid (best = (l.take j).all (fun z => !ltV v true z cn))) (fun _ jv _ => len - (intOf jv).toNat)
      case atStart => exact ⟨0, true, by omega, rfl, rfl, Below.refl _ _, Lib.hid rfl⟩
      case round =>
        obtain ⟨j, best, hj, rfl, rfl, hbq, hB⟩ := hrel
        have hbelq := bel2' hbel hbq
        by_cases hjl : j < len
        · have hjz : (j : Int) < (len : Int) := by omega
          obtain ⟨bb2, off2, hp2, _, _, hcellj⟩ := (HL.out.keep hbelq).cellAt j (by rw [HN.out]; exact hjl)
          simp only [Option.some.injEq, Addr.mk.injEq, and_true] at hp2
          obtain ⟨rfl, rfl⟩ := hp2
          have hcellk := cell_keep hbq CI.out
          have hmem := HR.out (l.getD j 0) (mem_getD (by rw [HN.out]; exact hjl) rfl)
          obtain ⟨y2, hy2⟩ : ∃ y, l.getD j 0 = y := ⟨_, rfl⟩
          rw [hy2] at hcellj hmem
          obtain ⟨bn, hbn⟩ : ∃ j : Nat, y2 = j := ⟨y2.toNat, by omega⟩
          subst hbn
          have HJ := Lib.hid (all_snoc_i (lt := ltV v true) (x := cn) (by rw [HN.out]; exact hjl) hy2)
          have hbl : bn < 1000 := by omega
          have hbD := hbelq.drew
          obtain ⟨qb, hqb⟩ : ∃ q, vote v bn = q := ⟨_, rfl⟩
          have VB : Hid (∀ w', Below w.heap.size w w' → Calls Try.prog 45 #[.slice p' nv c', .int .i64 bn] w' (GivesS qb w')) := Lib.hid (fun w' hb => by
            rw [← hqb]; exact number_c (HV.out.keep hb) bn hbl)
          obtain ⟨z, hz, HZ⟩ := ordS (v := v) true bn cn
          rw [HQC.out, hqb] at hz
          obtain ⟨z0, hz0⟩ : ∃ z, cmpS qb qc = z := ⟨_, rfl⟩
          rw [hz0] at hz
          have CM : Hid (∀ w' p1 l1 k1 p2 l2 k2 p3 l3 k3 p4 l4 k4, RatN w' (.agg #[.bool false, .slice p1 l1 k1, .slice p2 l2 k2]) qb 2 → RatN w' (.agg #[.bool false, .slice p3 l3 k3, .slice p4 l4 k4]) qc 2 → Calls Try.prog 44 #[.agg #[.bool false, .slice p1 l1 k1, .slice p2 l2 k2], .agg #[.bool false, .slice p3 l3 k3, .slice p4 l4 k4]] w' fun e w'' => e = .returned (.int .i64 z0) ∧ Below w'.heap.size w' w'') := Lib.hid (fun w' p1 l1 k1 p2 l2 k2 p3 l3 k3 p4 l4 k4 h1 h2 => by
            have := compare_c h1 (by rw [← hqb]; exact vote_sh SH.out _) h2 (by rw [← HQC.out]; exact vote_sh SH.out _)
            rw [hz0] at this
            exact this)
          have HZ : Hid ((z0 = -1 ∧ ltV v true bn cn = true) ∨ (z0 = 1 ∧ ltV v true bn cn = false) ∨ (z0 = 0 ∧ ltV v true bn cn = false)) := Lib.hid (by
            have e : z0 = z := by rw [← hz]; rfl
            rw [e]
            rcases HZ with ⟨g1, g2⟩ | ⟨g1, g2, _⟩ | ⟨g1, g2, _⟩
            · exact .inl ⟨g1, g2⟩
            · exact .inr (.inl ⟨g1, g2⟩)
            · exact .inr (.inr ⟨g1, g2⟩))
          have S0 : Hid (wr.drew.cell? ⟨bb, off + j, none⟩ = some (.int .i64 bn) ∧ wr.drew.cell? ⟨bb, off + k, none⟩ = some (.int .i64 cn)) := Lib.hid ⟨hcellj, hcellk⟩
          clear hy2 hqb hz hz0 hmem
          go_wp2_with fail
          go_region_held3 (fun w' => w'.cell? ⟨bb, off + j, none⟩ = some (.int .i64 bn) ∧ w'.cell? ⟨bb, off + k, none⟩ = some (.int .i64 cn))
            (first | exact S3.out | exact S2.out | exact S1.out | exact S0.out)
            (first
            | (go_at_call 45; ((with_reducible refine (VC.out _ hbD).mono ?_); rintro e w1 ⟨q1, i1, j1, q2, i2, j2, rfl, hvc, _, hbc⟩; have BC := bel2' hbD hbc; have S1 := Lib.hid (And.intro (cell_keep hbc S0.out.1) (cell_keep hbc S0.out.2))))
            | (go_at_call 45; ((with_reducible refine (VB.out _ hbD).mono ?_); rintro e w1 ⟨q3, i3, j3, q4, i4, j4, rfl, hvb, _, hbb⟩; have BB := bel2' hbD hbb; have S1 := Lib.hid (And.intro (cell_keep hbb S0.out.1) (cell_keep hbb S0.out.2))))
            | (go_at_call 45; ((with_reducible refine (VC.out _ BB).mono ?_); rintro e w2 ⟨q1, i1, j1, q2, i2, j2, rfl, hvc, _, hbc⟩; have B2 := bel2' BB hbc; have hvb := hvb.keep hbc; have S2 := Lib.hid (And.intro (cell_keep hbc S1.out.1) (cell_keep hbc S1.out.2))))
            | (go_at_call 45; ((with_reducible refine (VB.out _ BC).mono ?_); rintro e w2 ⟨q3, i3, j3, q4, i4, j4, rfl, hvb, _, hbb⟩; have B2 := bel2' BC hbb; have hvc := hvc.keep hbb; have S2 := Lib.hid (And.intro (cell_keep hbb S1.out.1) (cell_keep hbb S1.out.2))))
            | (go_at_call 44; ((with_reducible refine (CM.out _ _ _ _ _ _ _ _ _ _ _ _ _ hvb hvc).mono ?_); rintro e w3 ⟨rfl, hb3⟩; have S3 := Lib.hid (And.intro (cell_keep hb3 S2.out.1) (cell_keep hb3 S2.out.2)))))
          all_goals
            first | (have hbw := bel2' hbq.drew (bel2' (bel2' hbc hbb) hb3)) | (have hbw := bel2' hbq.drew (bel2' (bel2' hbb hbc) hb3))
            rcases HZ.out with ⟨hz, h1⟩ | ⟨hz, h1⟩ | ⟨hz, h1⟩
            · obtain rfl : z0 = -1 := by omega
              have HX : Hid (false = (l.take (j + 1)).all (fun z => !ltV v true z cn)) := Lib.hid (by rw [HJ.out, h1]; simp)
              clear h1 hz
              go_wp2_with fail
              go_roundw
              case rel => exact ⟨j + 1, false, by omega, by go_num, rfl, hbw, HX⟩
              case measure => simp [intOf] <;> omega
            · obtain rfl : z0 = 1 := by omega
              have HX : Hid (best = (l.take (j + 1)).all (fun z => !ltV v true z cn)) := Lib.hid (by rw [HJ.out, h1, hB.out]; simp)
              clear h1 hz
              go_wp2_with fail
              go_roundw
              case rel => exact ⟨j + 1, best, by omega, by go_num, rfl, hbw, HX⟩
              case measure => simp [intOf] <;> omega
            · obtain rfl : z0 = 0 := by omega
              have HX : Hid (best = (l.take (j + 1)).all (fun z => !ltV v true z cn)) := Lib.hid (by rw [HJ.out, h1, hB.out]; simp)
              clear h1 hz
              go_wp2_with fail
              go_roundw
              case rel => exact ⟨j + 1, best, by omega, by go_num, rfl, hbw, HX⟩
              case measure => simp [intOf] <;> omega
        · have hjz : ¬ (j : Int) < (len : Int) := by omega
          have hown2 := ownsRow_below hown hbq
          have hcellk := cell_keep hbq CI.out
          have HBA : Hid (best = l.all (fun z => !ltV v true z cn)) := Lib.hid (by rw [hB.out, List.take_of_length_le (by rw [HN.out]; omega)])
          cases best
          · have HX : Hid (o = (l.take (k + 1)).filter fun c => l.all fun k => !ltV v true k c) := Lib.hid (by rw [HS.out, hP.out, ← HBA.out]; simp)
            go_wp2_with fail
            go_roundw
            case rel => exact ⟨k + 1, m, o, by omega, by omega, by go_num, hown2, hbelq, HX⟩
            case measure => simp [intOf] <;> omega
          · have HX : Hid (o ++ [(cn : Int)] = (l.take (k + 1)).filter fun c => l.all fun k => !ltV v true k c) := Lib.hid (by rw [HS.out, hP.out, ← HBA.out]; simp)
            go_wp2_with (at_builtin; go_must (refine append_one erI rfl rfl hown2 rfl rfl rfl (by simp [Value.oneCell']) (by omega) (by omega) hbelq.size ?_); intro v' w4 hown1 _ hb1 hne1)
            go_roundw
            case rel =>
              refine ⟨k + 1, m + 1, o ++ [(cn : Int)], by omega, by omega, by go_num, ?_, hbelq.trans hb1, HX⟩
              rw [List.map_append]
              exact hown1
            case measure => simp [intOf] <;> omega
    · have hltz : ¬ (k : Int) < (len : Int) := by omega
      have HE : Hid (o = extA (ltV v true) l) := Lib.hid (by rw [hP.out, List.take_of_length_le (by rw [HN.out]; omega)]; rfl)
      have HI := Lib.hid (ints_owned hown)
      clear hown
      go_wp2_with fail
      go_ret
      exact ⟨_, rfl, by rw [← HE.out]; exact HI.out, hbel⟩

set_option maxRecDepth 100000 in
set_option maxHeartbeats 16000000 in
theorem extreme_false {vv vl : Value} {v : List Q} {l : List Int} {w : World} (hv : RatsAt w vv v) (hl : IntsAt w vl l) (hr : ∀ x ∈ l, 0 ≤ x ∧ x < 1000) (hln : l.length ≤ 1000) :
    Calls Try.prog 32 #[vv, vl, .bool false] w fun e w' => ∃ v', e = .returned v' ∧ IntsAt w' v' (extA (ltV v false) l) ∧ Below w.heap.size w w' := by
  have SH := Lib.hid hv.shs
  have HV := Lib.hid hv
  have HL := Lib.hid hl
  have HR := Lib.hid hr
  obtain ⟨p, c, rfl⟩ := hl.shape
  obtain ⟨p', c', rfl⟩ := hv.shp
  obtain ⟨len, hlen⟩ : ∃ n, l.length = n := ⟨_, rfl⟩
  obtain ⟨nv, hnv⟩ : ∃ n, v.length = n := ⟨_, rfl⟩
  have HN := Lib.hid hlen
  rw [hlen] at hln HL ⊢
  rw [hnv] at HV ⊢
  clear hv hl hr hlen hnv
  go_enter Try.func32, Try.ntmps32
  go_wp2_with fail
  go_loopw [7, 8] (fun ov iv wr => ∃ k m : Nat, ∃ o : List Int, k ≤ len ∧ m ≤ k ∧ iv = .int .i64 k ∧ wr.ownsRow w.heap.size 3 1 ov m (o.map (Value.int .i64)) ∧ Below w.heap.size w wr ∧ Hid (o = (l.take k).filter fun c => l.all fun k => !ltV v false k c)) (fun _ iv _ => len - (intOf iv).toNat)
  case atStart => exact ⟨0, 0, [], by omega, by omega, rfl, World.ownsRow_nil _ _ _ _, Below.refl _ _, Lib.hid rfl⟩
  case round =>
    obtain ⟨k, m, o, hk, hm, rfl, hown, hbel, hP⟩ := hrel
    obtain ⟨wo, rfl⟩ : ∃ x, x = wr := ⟨_, rfl⟩
    obtain ⟨p1, c1, rfl, hmc, hcm⟩ := own_shape hown
    by_cases hlt : k < len
    · have hltz : (k : Int) < (len : Int) := by omega
      obtain ⟨bb, off, hp0, hc1, hc2, hcell⟩ := (HL.out.keep hbel).cellAt k (by rw [HN.out]; exact hlt)
      subst hp0
      have hmem := HR.out (l.getD k 0) (mem_getD (by rw [HN.out]; exact hlt) rfl)
      obtain ⟨y, hy⟩ : ∃ y, l.getD k 0 = y := ⟨_, rfl⟩
      rw [hy] at hcell hmem
      obtain ⟨cn, hcn⟩ : ∃ j : Nat, y = j := ⟨y.toNat, by omega⟩
      subst hcn
      have HS := Lib.hid (filter_snoc_i (f := fun c => l.all fun k => !ltV v false k c) (by rw [HN.out]; exact hlt) hy)
      have hcl : cn < 1000 := by omega
      obtain ⟨qc, hqc⟩ : ∃ q, vote v cn = q := ⟨_, rfl⟩
      have VC : Hid (∀ w', Below w.heap.size w w' → Calls Try.prog 45 #[.slice p' nv c', .int .i64 cn] w' (GivesS qc w')) := Lib.hid (fun w' hb => by
        rw [← hqc]; exact number_c (HV.out.keep hb) cn hcl)
      have HQC := Lib.hid hqc
      have CI := Lib.hid hcell
      clear hy hmem hqc
      go_wp2_with fail
      go_loopw [9, 10] (fun bv jv wq => ∃ j : Nat, ∃ best : Bool, j ≤ len ∧ jv = .int .i64 j ∧ bv = .bool best ∧ Below wo.heap.size wo wq ∧ Hid (best = (l.take j).all (fun z => !ltV v false z cn))) (fun _ jv _ => len - (intOf jv).toNat)
      case atStart => exact ⟨0, true, by omega, rfl, rfl, Below.refl _ _, Lib.hid rfl⟩
      case round =>
        obtain ⟨j, best, hj, rfl, rfl, hbq, hB⟩ := hrel
        have hbelq := bel2' hbel hbq
        by_cases hjl : j < len
        · have hjz : (j : Int) < (len : Int) := by omega
          obtain ⟨bb2, off2, hp2, _, _, hcellj⟩ := (HL.out.keep hbelq).cellAt j (by rw [HN.out]; exact hjl)
          simp only [Option.some.injEq, Addr.mk.injEq, and_true] at hp2
          obtain ⟨rfl, rfl⟩ := hp2
          have hcellk := cell_keep hbq CI.out
          have hmem := HR.out (l.getD j 0) (mem_getD (by rw [HN.out]; exact hjl) rfl)
          obtain ⟨y2, hy2⟩ : ∃ y, l.getD j 0 = y := ⟨_, rfl⟩
          rw [hy2] at hcellj hmem
          obtain ⟨bn, hbn⟩ : ∃ j : Nat, y2 = j := ⟨y2.toNat, by omega⟩
          subst hbn
          have HJ := Lib.hid (all_snoc_i (lt := ltV v false) (x := cn) (by rw [HN.out]; exact hjl) hy2)
          have hbl : bn < 1000 := by omega
          have hbD := hbelq.drew
          obtain ⟨qb, hqb⟩ : ∃ q, vote v bn = q := ⟨_, rfl⟩
          have VB : Hid (∀ w', Below w.heap.size w w' → Calls Try.prog 45 #[.slice p' nv c', .int .i64 bn] w' (GivesS qb w')) := Lib.hid (fun w' hb => by
            rw [← hqb]; exact number_c (HV.out.keep hb) bn hbl)
          obtain ⟨z, hz, HZ⟩ := ordS (v := v) false bn cn
          rw [HQC.out, hqb] at hz
          obtain ⟨z0, hz0⟩ : ∃ z, cmpS qb qc = z := ⟨_, rfl⟩
          rw [hz0] at hz
          have CM : Hid (∀ w' p1 l1 k1 p2 l2 k2 p3 l3 k3 p4 l4 k4, RatN w' (.agg #[.bool false, .slice p1 l1 k1, .slice p2 l2 k2]) qb 2 → RatN w' (.agg #[.bool false, .slice p3 l3 k3, .slice p4 l4 k4]) qc 2 → Calls Try.prog 44 #[.agg #[.bool false, .slice p1 l1 k1, .slice p2 l2 k2], .agg #[.bool false, .slice p3 l3 k3, .slice p4 l4 k4]] w' fun e w'' => e = .returned (.int .i64 z0) ∧ Below w'.heap.size w' w'') := Lib.hid (fun w' p1 l1 k1 p2 l2 k2 p3 l3 k3 p4 l4 k4 h1 h2 => by
            have := compare_c h1 (by rw [← hqb]; exact vote_sh SH.out _) h2 (by rw [← HQC.out]; exact vote_sh SH.out _)
            rw [hz0] at this
            exact this)
          have HZ : Hid (((-z0) = -1 ∧ ltV v false bn cn = true) ∨ ((-z0) = 1 ∧ ltV v false bn cn = false) ∨ ((-z0) = 0 ∧ ltV v false bn cn = false)) := Lib.hid (by
            have e : (-z0) = z := by rw [← hz]; rfl
            rw [e]
            rcases HZ with ⟨g1, g2⟩ | ⟨g1, g2, _⟩ | ⟨g1, g2, _⟩
            · exact .inl ⟨g1, g2⟩
            · exact .inr (.inl ⟨g1, g2⟩)
            · exact .inr (.inr ⟨g1, g2⟩))
          have S0 : Hid (wr.drew.cell? ⟨bb, off + j, none⟩ = some (.int .i64 bn) ∧ wr.drew.cell? ⟨bb, off + k, none⟩ = some (.int .i64 cn)) := Lib.hid ⟨hcellj, hcellk⟩
          clear hy2 hqb hz hz0 hmem
          go_wp2_with fail
          go_region_held3 (fun w' => w'.cell? ⟨bb, off + j, none⟩ = some (.int .i64 bn) ∧ w'.cell? ⟨bb, off + k, none⟩ = some (.int .i64 cn))
            (first | exact S3.out | exact S2.out | exact S1.out | exact S0.out)
            (first
            | (go_at_call 45; ((with_reducible refine (VC.out _ hbD).mono ?_); rintro e w1 ⟨q1, i1, j1, q2, i2, j2, rfl, hvc, _, hbc⟩; have BC := bel2' hbD hbc; have S1 := Lib.hid (And.intro (cell_keep hbc S0.out.1) (cell_keep hbc S0.out.2))))
            | (go_at_call 45; ((with_reducible refine (VB.out _ hbD).mono ?_); rintro e w1 ⟨q3, i3, j3, q4, i4, j4, rfl, hvb, _, hbb⟩; have BB := bel2' hbD hbb; have S1 := Lib.hid (And.intro (cell_keep hbb S0.out.1) (cell_keep hbb S0.out.2))))
            | (go_at_call 45; ((with_reducible refine (VC.out _ BB).mono ?_); rintro e w2 ⟨q1, i1, j1, q2, i2, j2, rfl, hvc, _, hbc⟩; have B2 := bel2' BB hbc; have hvb := hvb.keep hbc; have S2 := Lib.hid (And.intro (cell_keep hbc S1.out.1) (cell_keep hbc S1.out.2))))
            | (go_at_call 45; ((with_reducible refine (VB.out _ BC).mono ?_); rintro e w2 ⟨q3, i3, j3, q4, i4, j4, rfl, hvb, _, hbb⟩; have B2 := bel2' BC hbb; have hvc := hvc.keep hbb; have S2 := Lib.hid (And.intro (cell_keep hbb S1.out.1) (cell_keep hbb S1.out.2))))
            | (go_at_call 44; ((with_reducible refine (CM.out _ _ _ _ _ _ _ _ _ _ _ _ _ hvb hvc).mono ?_); rintro e w3 ⟨rfl, hb3⟩; have S3 := Lib.hid (And.intro (cell_keep hb3 S2.out.1) (cell_keep hb3 S2.out.2)))))
          all_goals
            first | (have hbw := bel2' hbq.drew (bel2' (bel2' hbc hbb) hb3)) | (have hbw := bel2' hbq.drew (bel2' (bel2' hbb hbc) hb3))
            rcases HZ.out with ⟨hz, h1⟩ | ⟨hz, h1⟩ | ⟨hz, h1⟩
            · obtain rfl : z0 = 1 := by omega
              have HX : Hid (false = (l.take (j + 1)).all (fun z => !ltV v false z cn)) := Lib.hid (by rw [HJ.out, h1]; simp)
              clear h1 hz
              go_wp2_with fail
              go_roundw
              case rel => exact ⟨j + 1, false, by omega, by go_num, rfl, hbw, HX⟩
              case measure => simp [intOf] <;> omega
            · obtain rfl : z0 = -1 := by omega
              have HX : Hid (best = (l.take (j + 1)).all (fun z => !ltV v false z cn)) := Lib.hid (by rw [HJ.out, h1, hB.out]; simp)
              clear h1 hz
              go_wp2_with fail
              go_roundw
              case rel => exact ⟨j + 1, best, by omega, by go_num, rfl, hbw, HX⟩
              case measure => simp [intOf] <;> omega
            · obtain rfl : z0 = 0 := by omega
              have HX : Hid (best = (l.take (j + 1)).all (fun z => !ltV v false z cn)) := Lib.hid (by rw [HJ.out, h1, hB.out]; simp)
              clear h1 hz
              go_wp2_with fail
              go_roundw
              case rel => exact ⟨j + 1, best, by omega, by go_num, rfl, hbw, HX⟩
              case measure => simp [intOf] <;> omega
        · have hjz : ¬ (j : Int) < (len : Int) := by omega
          have hown2 := ownsRow_below hown hbq
          have hcellk := cell_keep hbq CI.out
          have HBA : Hid (best = l.all (fun z => !ltV v false z cn)) := Lib.hid (by rw [hB.out, List.take_of_length_le (by rw [HN.out]; omega)])
          cases best
          · have HX : Hid (o = (l.take (k + 1)).filter fun c => l.all fun k => !ltV v false k c) := Lib.hid (by rw [HS.out, hP.out, ← HBA.out]; simp)
            go_wp2_with fail
            go_roundw
            case rel => exact ⟨k + 1, m, o, by omega, by omega, by go_num, hown2, hbelq, HX⟩
            case measure => simp [intOf] <;> omega
          · have HX : Hid (o ++ [(cn : Int)] = (l.take (k + 1)).filter fun c => l.all fun k => !ltV v false k c) := Lib.hid (by rw [HS.out, hP.out, ← HBA.out]; simp)
            go_wp2_with (at_builtin; go_must (refine append_one erI rfl rfl hown2 rfl rfl rfl (by simp [Value.oneCell']) (by omega) (by omega) hbelq.size ?_); intro v' w4 hown1 _ hb1 hne1)
            go_roundw
            case rel =>
              refine ⟨k + 1, m + 1, o ++ [(cn : Int)], by omega, by omega, by go_num, ?_, hbelq.trans hb1, HX⟩
              rw [List.map_append]
              exact hown1
            case measure => simp [intOf] <;> omega
    · have hltz : ¬ (k : Int) < (len : Int) := by omega
      have HE : Hid (o = extA (ltV v false) l) := Lib.hid (by rw [hP.out, List.take_of_length_le (by rw [HN.out]; omega)]; rfl)
      have HI := Lib.hid (ints_owned hown)
      clear hown
      go_wp2_with fail
      go_ret
      exact ⟨_, rfl, by rw [← HE.out]; exact HI.out, hbel⟩

theorem extreme_c {vv vl : Value} {v : List Q} {l : List Int} {w : World} (hv : RatsAt w vv v) (hl : IntsAt w vl l) (hr : ∀ x ∈ l, 0 ≤ x ∧ x < 1000) (hln : l.length ≤ 1000) (least : Bool) :
    Calls Try.prog 32 #[vv, vl, .bool least] w fun e w' => ∃ v', e = .returned v' ∧ IntsAt w' v' (extA (ltV v least) l) ∧ Below w.heap.size w w' := by
  cases least
  · exact extreme_false hv hl hr hln
  · exact extreme_true hv hl hr hln

end Go.Proofs.Ythplbhgbgcfogaa
