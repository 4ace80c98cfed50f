/- The reference's Eq, at equal arguments: its walk. -/
import Derived.Test.YthdcgplocdehjaaEa
namespace Go.Proofs.Ythdcgplocdehjaa
open Go.RowKit Go.Proofs.Kit

section
variable {α β : Type} {la : α → Int} {lb : β → Int}
set_option maxRecDepth 100000 in
set_option maxHeartbeats 8000000 in
theorem eq_c {x : SrcA α} {y : SrcA β} {lines : Bool} (hS : SameS la lb lines x y) {u v : Value} (w : World) (hx : SmS x) (hu : SliceOf (blkRA la) 4 w u x.2) (hv : SliceOf (blkRA lb) 4 w v y.2) :
    Calls Try.prog 12 #[.agg #[strV x.1, u], .agg #[strV y.1, v], .bool lines] w fun e w' => e = .returned (.bool true) ∧ Below w.heap.size w w' := by
  obtain ⟨K, hK⟩ : ∃ K : ByteArray, (⟨x.1.toArray⟩ : ByteArray) = K := ⟨_, rfl⟩
  have eK : strV x.1 = .string K := by unfold strV; rw [hK]
  rw [← hS.1, eK]
  obtain ⟨p, cp, rfl, h1, h2⟩ := hu.shape
  obtain ⟨q, cq, rfl, h3, h4⟩ := hv.shape
  obtain ⟨n, hnn⟩ : ∃ n, x.2.length = n := ⟨_, rfl⟩
  have hny : y.2.length = n := by rw [← hS.2.1, hnn]
  have HN := Lib.hid hnn
  have HNY := Lib.hid hny
  have hn := hx.2.1
  rw [hnn] at h1 hu hn ⊢
  rw [hny] at h3 hv ⊢
  have hB0 : Below w.heap.size w ((w.alloc (.cells #[.string K, .slice p n cp] 24)).alloc (.cells #[.string K, .slice q n cq] 24)) := ((Below.refl _ _).alloc (Nat.le_refl _) _).alloc (by simp) _
  have R1 := Lib.hid ((Bk.new w #[.string K, .slice p n cp] 24).keep ((Below.refl _ _).alloc (Nat.le_refl _) (.cells #[.string K, .slice q n cq] 24)))
  have R2 : Hid (Bk (w.heap.size + 1) #[.string K, .slice q n cq] ((w.alloc (.cells #[.string K, .slice p n cp] 24)).alloc (.cells #[.string K, .slice q n cq] 24))) := Lib.hid (Bk.newAt _ _ _ (by simp))
  obtain ⟨X, hX⟩ : ∃ X, (w.alloc (.cells #[.string K, .slice p n cp] 24)).alloc (.cells #[.string K, .slice q n cq] 24) = X := ⟨_, rfl⟩
  rw [hX] at hB0 R1 R2
  have HX := Lib.hid hX
  have HU := Lib.hid (hu.keep hB0 fun c x => blkRA_keep hB0)
  have HV := Lib.hid (hv.keep hB0 fun c x => blkRA_keep hB0)
  obtain ⟨a0, a1⟩ := R1.out.two
  obtain ⟨b0, b1⟩ := R2.out.two
  clear hK eK hnn hny hu hv hX
  go_enter Try.func12, Try.ntmps12
  go_upto_region 1 with fail
  rw [HX.out]
  go_wp2_with fail
  go_loopw [7] (fun i wr => ∃ k : Nat, i = .int .i64 k ∧ k ≤ n ∧ Below X.heap.size X wr) (fun i _ => n - (intOf i).toNat)
  case atStart => exact ⟨0, rfl, Nat.zero_le _, Below.refl _ _⟩
  case round =>
    obtain ⟨k, rfl, hk, hbr⟩ := hrel
    have hbr0 : Below w.heap.size w wr := bel3 hB0 hbr
    have a2 := cell_keep hbr a1
    have b2 := cell_keep hbr b1
    by_cases hlt : k < n
    · have hkl : k < x.2.length := by rw [HN.out]; exact hlt
      have hkl2 : k < y.2.length := by rw [HNY.out]; exact hlt
      obtain ⟨X1, Y1, hX1, hY1, hSB⟩ := hS.at_ hkl hkl2
      have HSB := Lib.hid hSB
      have s1 := hSB.1
      have s2 := hSB.2.1
      have s3 := hSB.2.2.1
      have s4 := hSB.2.2.2.1
      clear hSB
      obtain ⟨g, off, SK, SN, r, cr, rfl, t1, t2, HUk, r1, r2, g0, g1, g2, g3⟩ := blk_at (HU.out.keep hbr fun c x => blkRA_keep hbr) hkl
      obtain ⟨g', off', SK', SN', r', cr', rfl, t1', t2', HVk, r1', r2', g0', g1', g2', g3'⟩ := blk_at (HV.out.keep hbr fun c x => blkRA_keep hbr) hkl2
      have hsb := hx.2.2 _ (List.getElem_mem hkl)
      rw [hX1] at t1 t2 HUk r1 g2 g3 hsb
      rw [hY1] at t1' t2' HVk r1' g2' g3'
      obtain rfl : SK = SK' := by rw [← s1, t1] at t1'; injection t1'
      obtain rfl : SN = SN' := by rw [← s2, t2] at t2'; injection t2'
      obtain ⟨m, hm⟩ : ∃ m, X1.2.2.1.length = m := ⟨_, rfl⟩
      have hmle := hsb.2.2.1
      rw [← s4, hm] at r1' g2' HVk
      rw [hm] at r1 g2 HUk hmle
      obtain ⟨lx, hlx⟩ : ∃ l, la X1.2.2.2 = l := ⟨_, rfl⟩
      obtain ⟨ly, hly⟩ : ∃ l, lb Y1.2.2.2 = l := ⟨_, rfl⟩
      rw [hlx, hly] at s3
      rw [hlx] at g3
      rw [hly] at g3'
      have HM := Lib.hid hm
      have HMY : Hid (Y1.2.2.1.length = m) := Lib.hid (by rw [← s4, hm])
      have HUk := Lib.hid HUk
      have HVk := Lib.hid HVk
      have i1 : (k : Int) < (n : Int) := by omega
      have i2 : (0 : Int) ≤ (k : Int) := by omega
      clear hX1 hY1 s1 s2 s4 t1 t2 t1' t2' hm hlx hly hkl hkl2
      have HALL : Hid (∀ W', Below wr.heap.size wr W' → W'.cell? ⟨w.heap.size, 1, none⟩ = some (.slice (some ⟨g, off, none⟩) n cp) ∧ W'.cell? ⟨w.heap.size + 1, 1, none⟩ = some (.slice (some ⟨g', off', none⟩) n cq) ∧ (W'.cell? ⟨g, off + k * 4, none⟩ = some (.string SK) ∧ W'.cell? ⟨g, off + k * 4 + 1, none⟩ = some (.string SN) ∧ W'.cell? ⟨g, off + k * 4 + 2, none⟩ = some (.slice r m cr) ∧ W'.cell? ⟨g, off + k * 4 + 3, none⟩ = some (.int .i64 lx)) ∧ (W'.cell? ⟨g', off' + k * 4, none⟩ = some (.string SK) ∧ W'.cell? ⟨g', off' + k * 4 + 1, none⟩ = some (.string SN) ∧ W'.cell? ⟨g', off' + k * 4 + 2, none⟩ = some (.slice r' m cr') ∧ W'.cell? ⟨g', off' + k * 4 + 3, none⟩ = some (.int .i64 ly))) :=
        Lib.hid (fun W' hb => ⟨cell_keep hb a2, cell_keep hb b2, ⟨cell_keep hb g0, cell_keep hb g1, cell_keep hb g2, cell_keep hb g3⟩, ⟨cell_keep hb g0', cell_keep hb g1', cell_keep hb g2', cell_keep hb g3'⟩⟩)
      obtain ⟨wo, rfl⟩ : ∃ x, x = wr := ⟨_, rfl⟩
      go_upto_region 6 with fail
      go_cut [8, 9] (fun s8 s9 wx => ∃ F G, s8 = .pointer (some ⟨F, 0, none⟩) ∧ s9 = .pointer (some ⟨G, 0, none⟩) ∧ Hid (Bk F #[.string SK, .string SN, .slice r m cr, .int .i64 lx] wx ∧ Bk G #[.string SK, .string SN, .slice r' m cr', .int .i64 ly] wx ∧ Below wo.heap.size wo wx))
      case first =>
        go_region_held3 (fun W' => W'.cell? ⟨w.heap.size, 1, none⟩ = some (.slice (some ⟨g, off, none⟩) n cp) ∧ W'.cell? ⟨w.heap.size + 1, 1, none⟩ = some (.slice (some ⟨g', off', none⟩) n cq) ∧ (W'.cell? ⟨g, off + k * 4, none⟩ = some (.string SK) ∧ W'.cell? ⟨g, off + k * 4 + 1, none⟩ = some (.string SN) ∧ W'.cell? ⟨g, off + k * 4 + 2, none⟩ = some (.slice r m cr) ∧ W'.cell? ⟨g, off + k * 4 + 3, none⟩ = some (.int .i64 lx)) ∧ (W'.cell? ⟨g', off' + k * 4, none⟩ = some (.string SK) ∧ W'.cell? ⟨g', off' + k * 4 + 1, none⟩ = some (.string SN) ∧ W'.cell? ⟨g', off' + k * 4 + 2, none⟩ = some (.slice r' m cr') ∧ W'.cell? ⟨g', off' + k * 4 + 3, none⟩ = some (.int .i64 ly)))
          (first | exact HALL.out _ (by repeat (first | exact Below.refl _ _ | exact Nat.le_refl _ | refine Below.drew ?_ | refine Below.alloc ?_ ?_ _ | refine Below.setCell ?_ ?_ _ | (simp; done) | (simp; omega))))
          (first | fail)
        all_goals
          go_wp2_with fail
          go_meet
          first
            | exact ⟨_, _, rfl, rfl, Lib.hid (bk_pair _ _ _ _ _)⟩
            | exact ⟨_, _, rfl, rfl, Lib.hid ⟨(bk_pair _ _ _ _ _).2.1, (bk_pair _ _ _ _ _).1, (bk_pair _ _ _ _ _).2.2⟩⟩
      case rest =>
        obtain ⟨F, G, rfl, rfl, hFG⟩ := hcut
        have hFG1 := hFG.out.1
        have hFG2 := hFG.out.2.1
        have hbc := hFG.out.2.2
        have HFG1 := Lib.hid hFG1
        have HFG2 := Lib.hid hFG2
        obtain ⟨f0, f1, f2, f3⟩ := hFG1.four
        obtain ⟨e0, e1, e2, e3⟩ := hFG2.four
        have hmm : ((m : Int) != (m : Int)) = false := by simp
        have HUc := Lib.hid (HUk.out.keep hbc fun c x => fldRA_keep hbc)
        have HVc := Lib.hid (HVk.out.keep hbc fun c x => fldRA_keep hbc)
        have hbrc : Below X.heap.size X wc := hbr.trans (hbc.mono hbr.size)
        clear hFG1 hFG2 hFG
        go_upto_region 7 with fail
        go_cut [74] (fun s wx => s = .bool false ∧ wx = wc)
        case first =>
          cases lines
          · go_wp2_with fail
            go_meet
            exact ⟨rfl, rfl⟩
          · have s6 := s3 rfl
            subst s6
            go_wp2_with fail
            go_meet
            exact ⟨rfl, rfl⟩
        case rest =>
        obtain ⟨rfl, rfl⟩ := hcut
        go_wp2_with fail
        go_loopw [10] (fun i wr => ∃ j : Nat, i = .int .i64 j ∧ j ≤ m ∧ Below wc.heap.size wc wr) (fun i _ => m - (intOf i).toNat)
        case atStart => exact ⟨0, rfl, Nat.zero_le _, Below.refl _ _⟩
        case round =>
          obtain ⟨j, rfl, hj, hbi⟩ := hrel
          have hbi0 : Below w.heap.size w wr := bel3 (bel3 hB0 hbrc) hbi
          have f5 := cell_keep hbi f2
          have e5 := cell_keep hbi e2
          by_cases hjt : j < m
          · have hjl : j < X1.2.2.1.length := by rw [HM.out]; exact hjt
            have hjl2 : j < Y1.2.2.1.length := by rw [HMY.out]; exact hjt
            obtain ⟨X2, Y2, hX2, hY2, hSF⟩ := HSB.out.at_ hjl hjl2
            have q1 := hSF.1
            have q2 := hSF.2.1
            have q3 := hSF.2.2
            clear hSF
            obtain ⟨z, of, SZ, uz, rfl, z1, zr, z3, z4, z5⟩ := fld_at (HUc.out.keep hbi fun c x => fldRA_keep hbi) hjl
            obtain ⟨z', of', SZ', uz', rfl, z1', zr', z3', z4', z5'⟩ := fld_at (HVc.out.keep hbi fun c x => fldRA_keep hbi) hjl2
            have hsf := hsb.2.2.2 _ (List.getElem_mem hjl)
            rw [hX2] at z1 zr z5 hsf
            rw [hY2] at z1' zr' z5'
            obtain rfl : SZ = SZ' := by rw [← q1, z1] at z1'; injection z1'
            rw [← q2] at zr'
            obtain ⟨p3, c3, rfl, y1, y2⟩ := RowAt.shapeS zr
            obtain ⟨p4, c4, rfl, y3, y4⟩ := RowAt.shapeS zr'
            obtain ⟨L, hL⟩ : ∃ L, X2.2.1 = L := ⟨_, rfl⟩
            have hLl := hsf.2.1
            rw [hL] at zr zr' z4 z4' y1 y3 hLl
            obtain ⟨lm, hlm⟩ : ∃ l, L.length = l := ⟨_, rfl⟩
            rw [hlm] at zr zr' z4 z4' y1 y3
            obtain ⟨lx2, hlx⟩ : ∃ l, la X2.2.2 = l := ⟨_, rfl⟩
            obtain ⟨ly2, hly⟩ : ∃ l, lb Y2.2.2 = l := ⟨_, rfl⟩
            rw [hlx, hly] at q3
            rw [hlx] at z5
            rw [hly] at z5'
            have HZ1 := Lib.hid zr
            have HZ2 := Lib.hid zr'
            have j1 : (j : Int) < (m : Int) := by omega
            have j2 : (0 : Int) ≤ (j : Int) := by omega
            clear hX2 hY2 q1 q2 z1 z1' hL hlm hlx hly hjl hjl2 zr zr' hsf
            have HALL2 : Hid (∀ W', Below wr.heap.size wr W' → W'.cell? ⟨F, 2, none⟩ = some (.slice (some ⟨z, of, none⟩) m cr) ∧ W'.cell? ⟨G, 2, none⟩ = some (.slice (some ⟨z', of', none⟩) m cr') ∧ (W'.cell? ⟨z, of + j * 3, none⟩ = some (.string SZ) ∧ W'.cell? ⟨z, of + j * 3 + 1, none⟩ = some (.slice p3 lm c3) ∧ W'.cell? ⟨z, of + j * 3 + 2, none⟩ = some (.int .i64 lx2)) ∧ (W'.cell? ⟨z', of' + j * 3, none⟩ = some (.string SZ) ∧ W'.cell? ⟨z', of' + j * 3 + 1, none⟩ = some (.slice p4 lm c4) ∧ W'.cell? ⟨z', of' + j * 3 + 2, none⟩ = some (.int .i64 ly2))) :=
              Lib.hid (fun W' hb => ⟨cell_keep hb f5, cell_keep hb e5, ⟨cell_keep hb z3, cell_keep hb z4, cell_keep hb z5⟩, ⟨cell_keep hb z3', cell_keep hb z4', cell_keep hb z5'⟩⟩)
            obtain ⟨wo2, rfl⟩ : ∃ x, x = wr := ⟨_, rfl⟩
            go_upto_region 12 with fail
            go_cut [11, 12] (fun s8 s9 wx => ∃ F G, s8 = .pointer (some ⟨F, 0, none⟩) ∧ s9 = .pointer (some ⟨G, 0, none⟩) ∧ Hid (Bk F #[.string SZ, .slice p3 lm c3, .int .i64 lx2] wx ∧ Bk G #[.string SZ, .slice p4 lm c4, .int .i64 ly2] wx ∧ Below wo2.heap.size wo2 wx))
            case first =>
              go_region_held3 (fun W' => W'.cell? ⟨F, 2, none⟩ = some (.slice (some ⟨z, of, none⟩) m cr) ∧ W'.cell? ⟨G, 2, none⟩ = some (.slice (some ⟨z', of', none⟩) m cr') ∧ (W'.cell? ⟨z, of + j * 3, none⟩ = some (.string SZ) ∧ W'.cell? ⟨z, of + j * 3 + 1, none⟩ = some (.slice p3 lm c3) ∧ W'.cell? ⟨z, of + j * 3 + 2, none⟩ = some (.int .i64 lx2)) ∧ (W'.cell? ⟨z', of' + j * 3, none⟩ = some (.string SZ) ∧ W'.cell? ⟨z', of' + j * 3 + 1, none⟩ = some (.slice p4 lm c4) ∧ W'.cell? ⟨z', of' + j * 3 + 2, none⟩ = some (.int .i64 ly2)))
                (first | exact HALL2.out _ (by repeat (first | exact Below.refl _ _ | exact Nat.le_refl _ | refine Below.drew ?_ | refine Below.alloc ?_ ?_ _ | refine Below.setCell ?_ ?_ _ | (simp; done) | (simp; omega))))
                (first | fail)
              all_goals
                go_wp2_with fail
                go_meet
                first
                  | exact ⟨_, _, rfl, rfl, Lib.hid (bk_pair _ _ _ _ _)⟩
                  | exact ⟨_, _, rfl, rfl, Lib.hid ⟨(bk_pair _ _ _ _ _).2.1, (bk_pair _ _ _ _ _).1, (bk_pair _ _ _ _ _).2.2⟩⟩
            case rest =>
              obtain ⟨F2, G2, rfl, rfl, hFG2⟩ := hcut
              have hbc2 := hFG2.out.2.2
              obtain ⟨m0, m1, m2⟩ := hFG2.out.1.three
              obtain ⟨n0, n1, n2⟩ := hFG2.out.2.1.three
              have SC := strings_c wc hLl (u := .slice p3 lm c3) (v := .slice p4 lm c4) (HZ1.out.keep hbc2) (HZ2.out.keep hbc2)
              have SC := Lib.hid SC
              have hbi2 := hbi.trans (hbc2.mono hbi.size)
              clear hFG2
              go_upto_region 13 with fail
              go_cut [114] (fun s wx => s = .bool false ∧ Hid (Below wc.heap.size wc wx))
              case first =>
                cases lines
                · go_wp2_with (go_at_call 24; ((with_reducible refine (SC.out).mono ?_); rintro e w5 ⟨rfl, hb5⟩))
                  go_meet
                  exact ⟨rfl, Lib.hid hb5⟩
                · have s6 := q3 rfl
                  subst s6
                  go_wp2_with (go_at_call 24; ((with_reducible refine (SC.out).mono ?_); rintro e w5 ⟨rfl, hb5⟩))
                  go_meet
                  exact ⟨rfl, Lib.hid hb5⟩
              case rest =>
              obtain ⟨rfl, hb6⟩ := hcut
              have hb7 := hbi2.trans (hb6.out.mono hbi2.size)
              go_wp2_with fail
              go_roundw
              case rel => exact ⟨j + 1, by go_num, by omega, hb7⟩
              case measure => simp [intOf]; omega
          · go_wp2_with fail
            go_roundw
            case rel => exact ⟨k + 1, by go_num, by omega, hbrc.trans (hbi.mono hbrc.size)⟩
            case measure => simp [intOf]; omega
    · go_wp2_with fail
      go_ret
      exact ⟨rfl, hbr0⟩
end

end Go.Proofs.Ythdcgplocdehjaa
