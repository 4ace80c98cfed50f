/- Cut: its walk. -/
import Derived.Test.YthdcgplocdehjaaCa
namespace Go.Proofs.Ythdcgplocdehjaa
open Go.RowKit Go.Proofs.Kit

section
variable {α : Type} {ln : α → Int}
set_option linter.unusedSimpArgs false in
set_option linter.unusedVariables false in
set_option maxRecDepth 100000 in
set_option maxHeartbeats 8000000 in
theorem cut_c {s : SrcA α} {u : Value} {w : World} (hu : SliceOf (blkRA ln) 4 w u s.2) :
    Calls Try.prog 13 #[.agg #[strV s.1, u]] w fun e w' => ∃ p m c, e = .returned (.agg #[strV (cutS s).1, .slice p m c]) ∧ Made w.heap.size (fun W => SliceOf (blkRA ln) 4 W (.slice p m c) (cutS s).2) w' ∧ Below w.heap.size w w' := by
  obtain ⟨K, hK⟩ : ∃ K : ByteArray, (⟨s.1.toArray⟩ : ByteArray) = K := ⟨_, rfl⟩
  have hT := cut_str s.1 hK 40
  rw [show strV s.1 = .string K by unfold strV; rw [hK], show strV (cutS s).1 = strV (s.1.take 40) from rfl, hT]
  obtain ⟨T0, hT0⟩ : ∃ T : ByteArray, K.extract 0 (min (K.size : Int) ((40 : Nat) : Int)).toNat = T := ⟨_, rfl⟩
  have HT0 : Hid (K.extract 0 (min (K.size : Int) 40).toNat = T0) := Lib.hid hT0
  rw [hT0]
  have q1 : (0 : Int) ≤ min (K.size : Int) 40 := by omega
  have q2 : min (K.size : Int) 40 ≤ (K.size : Int) := by omega
  obtain ⟨p, cap, eu, hc1, hc2⟩ := hu.shape
  obtain ⟨n, hnn⟩ : ∃ n, s.2.length = n := ⟨_, rfl⟩
  have HN := Lib.hid hnn
  rw [hnn] at eu hc1
  subst eu
  have hB0 : Below w.heap.size w ((w.alloc (.cells #[.string K, .slice p n cap] 24)).alloc (.cells #[.string ⟨#[]⟩, .slice none 0 0] 24)) := ((Below.refl _ _).alloc (Nat.le_refl _) _).alloc (by simp) _
  obtain ⟨r1, r2, _⟩ := (boxes2 w (.string K) (.slice p n cap) (.string ⟨#[]⟩) (.slice none 0 0) 24 24).out
  have R1 := Lib.hid r1
  have R2 := Lib.hid r2
  have hsz : ((w.alloc (.cells #[.string K, .slice p n cap] 24)).alloc (.cells #[.string ⟨#[]⟩, .slice none 0 0] 24)).heap.size = w.heap.size + 2 := by simp
  obtain ⟨X, hX⟩ : ∃ X, (w.alloc (.cells #[.string K, .slice p n cap] 24)).alloc (.cells #[.string ⟨#[]⟩, .slice none 0 0] 24) = X := ⟨_, rfl⟩
  rw [hX] at hB0 R1 R2 hsz
  have HX := Lib.hid hX
  obtain ⟨a0, a1⟩ := R1.out.two
  have HSZ := Lib.hid hsz
  have HUW := Lib.hid hu
  clear hK hT hT0 hnn hu hX r1 r2 hsz
  go_enter Try.func13, Try.ntmps13
  go_upto_region 1 with fail
  rw [HX.out]
  go_upto_region 3 with fail
  rw [HT0.out]
  have hF0 := Lib.hid (Bk.new X #[.string T0, .slice none 0 0] 24)
  have hB1 : Below X.heap.size X (X.alloc (.cells #[.string T0, .slice none 0 0] 24)) := (Below.refl _ _).alloc (Nat.le_refl _) _
  have R1 := Lib.hid (R1.out.keep hB1)
  have R2 := Lib.hid (R2.out.keep hB1)
  have hszZ : (X.alloc (.cells #[.string T0, .slice none 0 0] 24)).heap.size = X.heap.size + 1 := by simp
  obtain ⟨Z, hZ⟩ : ∃ Z, X.alloc (.cells #[.string T0, .slice none 0 0] 24) = Z := ⟨_, rfl⟩
  rw [hZ] at hF0 hB1 R1 R2 hszZ ⊢
  obtain ⟨F, hF⟩ : ∃ F, X.heap.size = F := ⟨_, rfl⟩
  rw [hF] at hF0 hszZ ⊢
  have hFZ : F < Z.heap.size := by omega
  have hFw : w.heap.size + 1 < F := by have := HSZ.out; omega
  have hBZ : Below w.heap.size w Z := bel3 hB0 hB1
  have HZB : Hid (Below w.heap.size w Z) := Lib.hid hBZ
  clear hZ hF a0 a1 hB0 hB1 HSZ hszZ hBZ
  go_loopw [4] (fun i wr => ∃ k : Nat, ∃ l css u, i = .int .i64 k ∧ k ≤ 12 ∧ Hid (Upd F Z wr) ∧ Hid (Bk F #[.string T0, u] wr) ∧ Hid (Lst (blkRA ln) Z.heap.size Z.heap.size 39 4 u wr l css) ∧ Hid (l = (s.2.take k).map cutB) ∧ k ≤ n) (fun i _ => 12 - (intOf i).toNat)
  case atStart => exact ⟨0, [], [], _, rfl, Nat.zero_le _, Lib.hid (Upd.refl _ _), Lib.hid hF0.out, Lib.hid (Lst.nil _), Lib.hid rfl, Nat.zero_le _⟩
  case round =>
    obtain ⟨k, l, css, u, rfl, hk, hUp, hBF, hL, hl, hkn⟩ := hrel
    obtain ⟨pu, nu, cu, eu⟩ := own_sl hL.out.own
    subst eu
    obtain ⟨f0, f1⟩ := hBF.out.two
    have hZr := hUp.out.below.size
    have hR1 := Lib.hid (R1.out.upd hUp.out (by omega))
    have hR2 := Lib.hid (R2.out.upd hUp.out (by omega))
    obtain ⟨a0, a1⟩ := hR1.out.two
    obtain ⟨b0, b1⟩ := (show Bk (w.heap.size + 1) #[.string ⟨#[]⟩, .slice none 0 0] wr from hR2.out).two
    obtain ⟨e0, e1⟩ := hR2.out.free2
    have hBel : Below w.heap.size w wr := HZB.out.trans (hUp.out.below.mono (by omega))
    by_cases hlt : k < n ∧ k < 12
    · obtain ⟨hlt, hlt2⟩ := hlt
      have t1 : (k : Int) < (n : Int) := by omega
      have t2 : (k : Int) < 12 := by omega
      have hkl : k < s.2.length := by rw [HN.out]; exact hlt
      obtain ⟨g, off, SK, SN, r, cr, rfl, z1, z2, HUk, r1, r2, g0, g1, g2, g3⟩ := blk_at (HUW.out.keep hBel fun c x => blkRA_keep hBel) hkl
      obtain ⟨X1, hX1⟩ : ∃ z, s.2[k] = z := ⟨_, rfl⟩
      have HTK : Hid ((s.2.take (k + 1)).map cutB = (s.2.take k).map cutB ++ [cutB X1]) := Lib.hid (by rw [take_snoc' _ _ _ hkl, hX1])
      rw [hX1] at z1 z2 HUk r1 g2 g3
      have HC1 := Lib.hid (cut_str X1.1 (S := SK) (by injection z1) 30)
      have HC2 := Lib.hid (cut_str X1.2.1 (S := SN) (by injection z2) 30)
      obtain ⟨TK, hTK⟩ : ∃ T : ByteArray, SK.extract 0 (min (SK.size : Int) 30).toNat = T := ⟨_, rfl⟩
      obtain ⟨TN, hTN⟩ : ∃ T : ByteArray, SN.extract 0 (min (SN.size : Int) 30).toNat = T := ⟨_, rfl⟩
      have HTKK := Lib.hid hTK
      have HTNN := Lib.hid hTN
      have HCK : Hid (strV (cutB X1).1 = .string TK) := Lib.hid (HC1.out.trans (by rw [← hTK]; rfl))
      have HCN : Hid (strV (cutB X1).2.1 = .string TN) := Lib.hid (HC2.out.trans (by rw [← hTN]; rfl))
      obtain ⟨m, hm⟩ : ∃ m, X1.2.2.1.length = m := ⟨_, rfl⟩
      rw [hm] at r1 g2 HUk
      obtain ⟨lx, hlx⟩ : ∃ l, ln X1.2.2.2 = l := ⟨_, rfl⟩
      rw [hlx] at g3
      have HLX := Lib.hid hlx
      have HM := Lib.hid hm
      have HUk := Lib.hid HUk
      have i1 : (k : Int) < ((s.2.length : Nat) : Int) := by omega
      have j1 : (0 : Int) ≤ min (SK.size : Int) 30 := by omega
      have j2 : min (SK.size : Int) 30 ≤ (SK.size : Int) := by omega
      have j3 : (0 : Int) ≤ min (SN.size : Int) 30 := by omega
      have j4 : min (SN.size : Int) 30 ≤ (SN.size : Int) := by omega
      clear hX1 z1 z2 hTK hTN hm hlx hkl HC1 HC2 i1
      have hN5 := Lib.hid (Bk.new wr #[.string SK, .string SN, .slice r m cr, .int .i64 lx] 39)
      have hb5 : Below wr.heap.size wr (wr.alloc (.cells #[.string SK, .string SN, .slice r m cr, .int .i64 lx] 39)) := (Below.refl _ _).alloc (Nat.le_refl _) _
      go_upto_region 6 with fail
      obtain ⟨X5, hX5⟩ : ∃ X, wr.alloc (.cells #[.string SK, .string SN, .slice r m cr, .int .i64 lx] 39) = X := ⟨_, rfl⟩
      rw [hX5] at hN5 hb5 ⊢
      clear hX5
      obtain ⟨m0, m1, m2, m3⟩ := hN5.out.four
      have hX5 := hN5.out.1
      have HALL : Hid (∀ W', Below X5.heap.size X5 W' → W'.cell? ⟨wr.heap.size, 0, none⟩ = some (.string SK) ∧ W'.cell? ⟨wr.heap.size, 1, none⟩ = some (.string SN) ∧ W'.cell? ⟨wr.heap.size, 3, none⟩ = some (.int .i64 lx)) := Lib.hid (fun W' hb => ⟨cell_keep hb m0, cell_keep hb m1, cell_keep hb m3⟩)
      obtain ⟨wo, rfl⟩ : ∃ x, x = wr := ⟨_, rfl⟩
      go_cut [6] (fun s6 wx => ∃ B, s6 = .pointer (some ⟨B, 0, none⟩) ∧ Hid (Bk B #[.string TK, .string TN, .slice none 0 0, .int .i64 lx] wx ∧ Below X5.heap.size X5 wx) ∧ X5.heap.size ≤ B)
      case first =>
        go_region_held3 (fun W' => W'.cell? ⟨wo.heap.size, 0, none⟩ = some (.string SK) ∧ W'.cell? ⟨wo.heap.size, 1, none⟩ = some (.string SN) ∧ W'.cell? ⟨wo.heap.size, 3, none⟩ = some (.int .i64 lx))
          (first | exact HALL.out _ (by repeat (first | exact Below.refl _ _ | exact Nat.le_refl _ | refine Below.drew ?_ | refine Below.alloc ?_ ?_ _ | refine Below.setCell ?_ ?_ _ | (simp; done) | (simp; omega))))
          (first | fail)
        all_goals
          go_wp2_with fail
          go_meet
          rw [HTKK.out, HTNN.out]
          exact ⟨X5.heap.size, rfl, Lib.hid ⟨(Bk.new X5 _ _).keep (Below.refl _ _).drew, ((Below.refl _ _).alloc (Nat.le_refl _) _).drew⟩, Nat.le_refl _⟩
      case rest =>
      obtain ⟨B, rfl, hB6, hB5⟩ := hcut
      have hBk6 := Lib.hid hB6.out.1
      have hb6 := hB6.out.2
      have hBl := hBk6.out.1
      clear hB6
      have HUk6 : Hid (∀ W', Upd B wc W' → SliceOf (fldRA ln) 3 W' (.slice r m cr) X1.2.2.1) := Lib.hid (fun W' hU => by
        have hbX : Below wo.heap.size wo W' := (hb5.trans (hb6.mono hb5.size)).trans (hU.below.mono (by omega))
        exact HUk.out.keep hbX fun c x => fldRA_keep hbX)
      have hN6 := Lib.hid (hN5.out.keep hb6)
      have hUp6 := Lib.hid (hUp.out.trans (Upd.of (hb5.trans (hb6.mono hb5.size)) (by omega)))
      clear HALL m0 m1 m2 m3
      go_wp2_with fail
      go_loopw [7] (fun i wr => ∃ j : Nat, ∃ l2 css2 u2, i = .int .i64 j ∧ j ≤ 12 ∧ j ≤ m ∧ Hid (Upd B wc wr) ∧ Hid (Bk B #[.string TK, .string TN, u2, .int .i64 lx] wr) ∧ Hid (Lst (fldRA ln) wc.heap.size wc.heap.size 42 3 u2 wr l2 css2) ∧ Hid (l2 = (X1.2.2.1.take j).map cutF)) (fun i _ => 12 - (intOf i).toNat)
      case atStart => exact ⟨0, [], [], _, rfl, Nat.zero_le _, Nat.zero_le _, Lib.hid (Upd.refl _ _), Lib.hid hBk6.out, Lib.hid (Lst.nil _), Lib.hid rfl⟩
      case round =>
        obtain ⟨j, l2, css2, u2, rfl, hj, hjm, hUp2, hBB, hL2, hl2⟩ := hrel
        obtain ⟨pv, nv, cv, ev⟩ := own_sl hL2.out.own
        subst ev
        obtain ⟨v0, v1, v2, v3⟩ := hBB.out.four
        obtain ⟨y0, y1, y2, y3⟩ := hBB.out.free4
        have hcr := hUp2.out.below.size
        have hN7 := Lib.hid (hN6.out.upd hUp2.out (by omega))
        obtain ⟨m0, m1, m2, m3⟩ := hN7.out.four
        by_cases hjt : j < m ∧ j < 12
        · obtain ⟨hjt, hjt2⟩ := hjt
          have t3 : (j : Int) < (m : Int) := by omega
          have t4 : (j : Int) < 12 := by omega
          have hjl : j < X1.2.2.1.length := by rw [HM.out]; exact hjt
          have hbm : Below wc.heap.size wc wr → True := fun _ => trivial
          clear hbm
          have HUR := Lib.hid (HUk6.out wr hUp2.out)
          obtain ⟨gz, oz, SZ, uz, rfl, c1, hrz, g4, g5, g6⟩ := fld_at HUR.out hjl
          obtain ⟨X2, hX2⟩ : ∃ z, X1.2.2.1[j] = z := ⟨_, rfl⟩
          have HTJ : Hid ((X1.2.2.1.take (j + 1)).map cutF = (X1.2.2.1.take j).map cutF ++ [cutF X2]) := Lib.hid (by rw [take_snoc' _ _ _ hjl, hX2])
          rw [hX2] at c1 hrz g6
          have HC3 := Lib.hid (cut_str X2.1 (S := SZ) (by injection c1) 30)
          obtain ⟨TZ, hTZ⟩ : ∃ T : ByteArray, SZ.extract 0 (min (SZ.size : Int) 30).toNat = T := ⟨_, rfl⟩
          have HTZZ := Lib.hid hTZ
          have HCZ : Hid (strV (cutF X2).1 = .string TZ) := Lib.hid (HC3.out.trans (by rw [← hTZ]; rfl))
          obtain ⟨pz, cz, ez, hz1, hz2⟩ := RowAt.shapeS hrz
          subst ez
          obtain ⟨vn, hvn⟩ : ∃ m, X2.2.1.length = m := ⟨_, rfl⟩
          rw [hvn] at hz1 g5 hrz
          have HVN := Lib.hid hvn
          obtain ⟨lz, hlz⟩ : ∃ l, ln X2.2.2 = l := ⟨_, rfl⟩
          rw [hlz] at g6
          have HLZ := Lib.hid hlz
          have HRZ := Lib.hid hrz
          have j5 : (0 : Int) ≤ min (SZ.size : Int) 30 := by omega
          have j6 : min (SZ.size : Int) 30 ≤ (SZ.size : Int) := by omega
          clear hX2 c1 hTZ hvn hlz hjl HC3 hrz
          have hN8 := Lib.hid (Bk.new wr #[.string SZ, .slice pz vn cz, .int .i64 lz] 42)
          have hb8 : Below wr.heap.size wr (wr.alloc (.cells #[.string SZ, .slice pz vn cz, .int .i64 lz] 42)) := (Below.refl _ _).alloc (Nat.le_refl _) _
          obtain ⟨wm, rfl⟩ : ∃ x, x = wc := ⟨_, rfl⟩
          go_upto_region 11 with fail
          obtain ⟨X7, hX7⟩ : ∃ X, wr.alloc (.cells #[.string SZ, .slice pz vn cz, .int .i64 lz] 42) = X := ⟨_, rfl⟩
          rw [hX7] at hN8 hb8 ⊢
          clear hX7
          obtain ⟨o0, o1, o2⟩ := hN8.out.three
          have hX7 := hN8.out.1
          have HALL3 : Hid (∀ W', Below X7.heap.size X7 W' → W'.cell? ⟨wr.heap.size, 0, none⟩ = some (.string SZ) ∧ W'.cell? ⟨wr.heap.size, 2, none⟩ = some (.int .i64 lz)) := Lib.hid (fun W' hb => ⟨cell_keep hb o0, cell_keep hb o2⟩)
          obtain ⟨wn, rfl⟩ : ∃ x, x = wr := ⟨_, rfl⟩
          go_cut [9] (fun s9 wx => ∃ G, s9 = .pointer (some ⟨G, 0, none⟩) ∧ Hid (Bk G #[.string TZ, .slice none 0 0, .int .i64 lz] wx ∧ Below X7.heap.size X7 wx) ∧ X7.heap.size ≤ G)
          case first =>
            go_region_held3 (fun W' => W'.cell? ⟨wn.heap.size, 0, none⟩ = some (.string SZ) ∧ W'.cell? ⟨wn.heap.size, 2, none⟩ = some (.int .i64 lz))
              (first | exact HALL3.out _ (by repeat (first | exact Below.refl _ _ | exact Nat.le_refl _ | refine Below.drew ?_ | refine Below.alloc ?_ ?_ _ | refine Below.setCell ?_ ?_ _ | (simp; done) | (simp; omega))))
              (first | fail)
            all_goals
              go_wp2_with fail
              go_meet
              rw [HTZZ.out]
              exact ⟨X7.heap.size, rfl, Lib.hid ⟨(Bk.new X7 _ _).keep (Below.refl _ _).drew, ((Below.refl _ _).alloc (Nat.le_refl _) _).drew⟩, Nat.le_refl _⟩
          case rest =>
          obtain ⟨G, rfl, hG6, hG5⟩ := hcut
          have hGk := Lib.hid hG6.out.1
          have hb9 := hG6.out.2
          have hGl := hGk.out.1
          clear hG6
          have hN9 := Lib.hid (hN8.out.keep hb9)
          have hb10 : Below wn.heap.size wn wc := hb8.trans (hb9.mono hb8.size)
          have hsz10 := hb10.size
          have HRC := Lib.hid (HRZ.out.keep hb10)
          go_wp2_with fail
          go_loopw [10] (fun i wr => ∃ q : Nat, ∃ ug, i = .int .i64 q ∧ q ≤ 12 ∧ q ≤ vn ∧ Hid (Upd G wc wr) ∧ Hid (QG G wc.heap.size TZ lz ug ((X2.2.1.take q).map fun v => strV (v.take 30)) wr)) (fun i _ => 12 - (intOf i).toNat)
          case atStart => exact ⟨0, _, rfl, Nat.zero_le _, Nat.zero_le _, Lib.hid (Upd.refl _ _), Lib.hid ⟨hGk.out, World.ownsRow_nil _ _ _ _⟩⟩
          case round =>
            obtain ⟨q, ug, rfl, hq, hqv, hUp3, hQG⟩ := hrel
            obtain ⟨pg, ng, cg, eg⟩ := own_sl hQG.out.own
            subst eg
            obtain ⟨w0, w1, w2⟩ := hQG.out.blk.three
            have hcr3 := hUp3.out.below.size
            have hN10 := Lib.hid (hN9.out.upd hUp3.out (by omega))
            obtain ⟨o0, o1, o2⟩ := hN10.out.three
            by_cases hqt : q < vn ∧ q < 12
            · obtain ⟨hqt, hqt2⟩ := hqt
              have t5 : (q : Int) < (vn : Int) := by omega
              have t6 : (q : Int) < 12 := by omega
              have t7 : (0 : Int) ≤ (q : Int) := by omega
              have hbq : Below wn.heap.size wn wr := hb10.trans (hUp3.out.below.mono (by omega))
              have hql : q < X2.2.1.length := by rw [HVN.out]; exact hqt
              obtain ⟨bz, fz, cz', ez', _, _, hbzl, hcz⟩ := RowAt.strAt HRZ.out hql
              injection ez' with ez1 ez2 ez3
              subst ez1
              clear ez2 ez3
              have n0 := cell_keep hbq (hcz q hql)
              obtain ⟨SV, hSV⟩ : ∃ S : ByteArray, (⟨X2.2.1[q].toArray⟩ : ByteArray) = S := ⟨_, rfl⟩
              rw [hSV] at n0
              have HSN : Hid ((X2.2.1.take (q + 1)).map (fun v => strV (v.take 30)) = (X2.2.1.take q).map (fun v => strV (v.take 30)) ++ [.string (SV.extract 0 (min (SV.size : Int) 30).toNat)]) := Lib.hid (by
                rw [take_snoc' _ _ _ hql]
                congr 2
                exact cut_str _ hSV 30)
              have j7 : (0 : Int) ≤ min (SV.size : Int) 30 := by omega
              have j8 : min (SV.size : Int) 30 ≤ (SV.size : Int) := by omega
              clear hcz hSV hql
              have hle3 : wc.heap.size ≤ wr.heap.size := hUp3.out.below.size
              have hDr := (Below.refl wr.heap.size wr).drew
              have hbD : Below wr.heap.size wr (wr.alloc (.cells #[.string (SV.extract 0 (min (SV.size : Int) 30).toNat)] 9)).drew := ((Below.refl _ _).alloc (Nat.le_refl _) _).drew
              have S1 := Lib.hid (And.intro (cell_keep hDr o1) (cell_keep hDr n0))
              have S2 := Lib.hid (And.intro (cell_keep hbD o1) (cell_keep hbD n0))
              have w3 := cell_keep hDr w1
              have w4 := cell_keep hbD w1
              have hQD : Hid (QG G wc.heap.size TZ lz (.slice pg ng cg) ((X2.2.1.take q).map fun v => strV (v.take 30)) (wr.alloc (.cells #[.string (SV.extract 0 (min (SV.size : Int) 30).toNat)] 9)).drew) := Lib.hid ⟨hQG.out.blk.keep hbD, ownsRow_below hQG.out.own hbD⟩
              have hUD : Hid (Upd G wc (wr.alloc (.cells #[.string (SV.extract 0 (min (SV.size : Int) 30).toNat)] 9)).drew) := Lib.hid (hUp3.out.trans (Upd.of hbD (by omega)))
              have hleD : wc.heap.size ≤ (wr.alloc (.cells #[.string (SV.extract 0 (min (SV.size : Int) 30).toNat)] 9)).drew.heap.size := Nat.le_trans hle3 hbD.size
              have hnl : ((X2.2.1.take q).map fun v => strV (v.take 30)).length ≤ 1000000 := by rw [List.length_map, List.length_take]; omega
              have hbzc : bz < wc.heap.size := by omega
              have hwnc : wn.heap.size < wc.heap.size := by omega
              have hGn : wn.heap.size ≠ G := by omega
              have hGb : bz ≠ G := by omega
              clear hbzl
              obtain ⟨wp, rfl⟩ : ∃ x, x = wr := ⟨_, rfl⟩
              go_upto_region 15 with fail
              refine wp_region_held_drew (S := (fun W' => W'.cell? ⟨wn.heap.size, 1, none⟩ = some (.slice (some ⟨bz, fz, none⟩) vn cz) ∧ W'.cell? ⟨bz, fz + q, none⟩ = some (.string SV))) (by kernel_rfl) S1.out (fun hHeld => ?_)
              refine wpAnyH_take (i := 0) (v := ?v0) rfl (by kernel_rfl) (by kernel_rfl) (by kernel_rfl) (fun _ _ _ h => h) (Or.inl ⟨by rfl, ?hy0⟩) (by assumption) ?rest0
              case hy0 => (intro w0 hSw; (try dsimp only at hSw); go_simp; try with_reducible rfl)
              try simp only [Act.put, List.setIfInBounds_toArray, List.set_cons_zero, List.set_cons_succ]
              refine wpAnyH_take (i := 2) (v := ?v2) rfl (by kernel_rfl) (by kernel_rfl) (by kernel_rfl) (fun _ _ _ h => h) (Or.inl ⟨by rfl, ?hy2⟩) (by assumption) ?rest2
              case hy2 => (intro w0 hSw; (try dsimp only at hSw); go_simp; try with_reducible rfl)
              try simp only [Act.put, List.setIfInBounds_toArray, List.set_cons_zero, List.set_cons_succ]
              refine wpAnyH_take (i := 3) (v := ?v3) rfl (by kernel_rfl) (by kernel_rfl) (by kernel_rfl) (fun _ _ _ h => h) (Or.inl ⟨by rfl, ?hy3⟩) (by assumption) ?rest3
              case hy3 => (intro w0 hSw; (try dsimp only at hSw); go_simp; try with_reducible rfl)
              try simp only [Act.put, List.setIfInBounds_toArray, List.set_cons_zero, List.set_cons_succ]
              refine wpAnyH_take (i := 4) (v := ?v4) rfl (by kernel_rfl) (by kernel_rfl) (by kernel_rfl) (fun _ _ _ h => h) (Or.inl ⟨by rfl, ?hy4⟩) (by assumption) ?rest4
              case hy4 => (intro w0 hSw; (try dsimp only at hSw); go_simp; try with_reducible rfl)
              try simp only [Act.put, List.setIfInBounds_toArray, List.set_cons_zero, List.set_cons_succ]
              refine wpAnyH_take (i := 5) (v := ?v5) rfl (by kernel_rfl) (by kernel_rfl) (by kernel_rfl) (fun _ _ _ h => h) (Or.inl ⟨by rfl, ?hy5⟩) (by assumption) ?rest5
              case hy5 => (intro w0 hSw; (try dsimp only at hSw); go_simp; try with_reducible rfl)
              try simp only [Act.put, List.setIfInBounds_toArray, List.set_cons_zero, List.set_cons_succ]
              refine wpAnyH_take (i := 6) (v := ?v6) rfl (by kernel_rfl) (by kernel_rfl) (by kernel_rfl) (fun _ _ _ h => h) (Or.inl ⟨by rfl, ?hy6⟩) (by assumption) ?rest6
              case hy6 => (intro w0 hSw; (try dsimp only at hSw); go_simp; try with_reducible rfl)
              try simp only [Act.put, List.setIfInBounds_toArray, List.set_cons_zero, List.set_cons_succ]
              refine wpAnyH_take (i := 7) (v := ?v7) rfl (by kernel_rfl) (by kernel_rfl) (by kernel_rfl) (fun _ _ _ h => h) (Or.inl ⟨by rfl, ?hy7⟩) (by assumption) ?rest7
              case hy7 => (intro w0 hSw; (try dsimp only at hSw); go_simp; try with_reducible rfl)
              try simp only [Act.put, List.setIfInBounds_toArray, List.set_cons_zero, List.set_cons_succ]
              refine wpAnyH_take (i := 8) (v := ?v8) rfl (by kernel_rfl) (by kernel_rfl) (by kernel_rfl) (fun _ _ _ h => h) (Or.inl ⟨by rfl, ?hy8⟩) (by assumption) ?rest8
              case hy8 => (intro w0 hSw; (try dsimp only at hSw); go_simp; try with_reducible rfl)
              try simp only [Act.put, List.setIfInBounds_toArray, List.set_cons_zero, List.set_cons_succ]
              refine wpAnyH_take (i := 9) (v := ?v9) rfl (by kernel_rfl) (by kernel_rfl) (by kernel_rfl) (fun _ _ _ h => h) (Or.inl ⟨by rfl, ?hy9⟩) (by assumption) ?rest9
              case hy9 => (intro w0 hSw; (try dsimp only at hSw); go_simp; try with_reducible rfl)
              try simp only [Act.put, List.setIfInBounds_toArray, List.set_cons_zero, List.set_cons_succ]
              refine wpAnyH_take (i := 10) (v := ?v10) rfl (by kernel_rfl) (by kernel_rfl) (by kernel_rfl) (fun _ _ _ h => h) (Or.inl ⟨by rfl, ?hy10⟩) (by assumption) ?rest10
              case hy10 => (intro w0 hSw; (try dsimp only at hSw); go_simp; try with_reducible rfl)
              try simp only [Act.put, List.setIfInBounds_toArray, List.set_cons_zero, List.set_cons_succ]
              refine wpAnyH_take (i := 11) (v := ?v11) rfl (by kernel_rfl) (by kernel_rfl) (by kernel_rfl) (fun _ _ _ h => h) (Or.inl ⟨by rfl, ?hy11⟩) (by assumption) ?rest11
              case hy11 => (intro w0 hSw; (try dsimp only at hSw); go_simp; try with_reducible rfl)
              try simp only [Act.put, List.setIfInBounds_toArray, List.set_cons_zero, List.set_cons_succ]
              refine wpAnyH_take (i := 12) (v := ?v12) rfl (by kernel_rfl) (by kernel_rfl) (by kernel_rfl) (fun _ _ _ h => h) (Or.inl ⟨by rfl, ?hy12⟩) (by assumption) ?rest12
              case hy12 => (intro w0 hSw; (try dsimp only at hSw); go_simp; try with_reducible rfl)
              try simp only [Act.put, List.setIfInBounds_toArray, List.set_cons_zero, List.set_cons_succ]
              refine wpAnyH_take (i := 13) (v := ?v13) rfl (by kernel_rfl) (by kernel_rfl) (by kernel_rfl) (fun _ _ _ h => h) (Or.inl ⟨by rfl, ?hy13⟩) (by assumption) ?rest13
              case hy13 => (intro w0 hSw; (try dsimp only at hSw); go_simp; try with_reducible rfl)
              try simp only [Act.put, List.setIfInBounds_toArray, List.set_cons_zero, List.set_cons_succ]
              refine wpAnyH_take (i := 14) (v := ?v14) rfl (by kernel_rfl) (by kernel_rfl) (by kernel_rfl) (fun _ _ _ h => h) (Or.inl ⟨by rfl, ?hy14⟩) (by assumption) ?rest14
              case hy14 => (intro w0 hSw; (try dsimp only at hSw); go_simp; try with_reducible rfl)
              try simp only [Act.put, List.setIfInBounds_toArray, List.set_cons_zero, List.set_cons_succ]
              refine wpAnyH_ready (rs := [1, 15]) (by kernel_rfl) (by simp) ?_
              refine AllReadyH.cons (o := { dst := some 90, op := Go.Op.load 40 (Go.Operand.tmp 89), type := 40, pos := "ref.go:196", after := #[{ on := 0, ground := Go.Ground.data }], guard := none }) rfl (fun K1 hK1 => ?_) (AllReadyH.cons (o := { dst := some 104, op := Go.Op.buildSlice 40 1 #[(0, Go.Operand.tmp 103)], type := 40, pos := "ref.go:196", after := #[{ on := 14, ground := Go.Ground.data }], guard := none }) rfl (fun K2 hK2 => ?_) AllReadyH.nil)
              · go_simp
                refine hK1.out _ _ S1.out (fun _ => ?_)
                try simp only [Act.put, List.setIfInBounds_toArray, List.set_cons_zero, List.set_cons_succ]
                refine wpAnyH_ready (rs := [15]) (by kernel_rfl) (by simp) ?_
                refine AllReadyH.cons (o := { dst := some 104, op := Go.Op.buildSlice 40 1 #[(0, Go.Operand.tmp 103)], type := 40, pos := "ref.go:196", after := #[{ on := 14, ground := Go.Ground.data }], guard := none }) rfl (fun K3 hK3 => ?_) AllReadyH.nil
                go_simp
                refine hK3.out _ _ S2.out (fun _ => ?_)
                try simp only [Act.put, List.setIfInBounds_toArray, List.set_cons_zero, List.set_cons_succ]
                refine wpAnyH_ready (rs := [16]) (by kernel_rfl) (by simp) ?_
                refine AllReadyH.cons (o := { dst := some 105, op := Go.Op.call { callee := Go.Callee.builtin Go.Builtin.append, args := #[Go.Operand.tmp 90, Go.Operand.tmp 104], argTypes := #[40, 40] }, type := 40, pos := "ref.go:196", after := #[{ on := 1, ground := Go.Ground.data }, { on := 15, ground := Go.Ground.data }], guard := none }) rfl (fun K4 hK4 => ?_) AllReadyH.nil
                refine step_append_str (by rfl) (by rfl) hQD.out.own (by rfl) (by rfl) (cell_keep (Below.refl _ _).drew (cell_alloc_new wp _ _ _ 0)) hnl hleD ?_
                intro v9 w9 ho9 hb9' hg9 hv9
                have KG := Lib.hid (QG.grow hGl rfl hUD.out hQD.out ho9 hb9')
                have hF9 : Bk G #[.string TZ, .slice pg ng cg, .int .i64 lz] w9 := hQD.out.blk.same (hb9'.block G hGl) hb9'.size
                obtain ⟨x0, x1, x2⟩ := hF9.three
                obtain ⟨y0, y1, y2⟩ := hF9.free3
                obtain ⟨p9, n9, c9, e9⟩ := own_sl ho9
                subst e9
                have S9 := Lib.hid (And.intro ((World.cell?_of_block (a := ⟨wn.heap.size, 1, none⟩) (hb9'.block _ hwnc)).trans S2.out.1) ((World.cell?_of_block (a := ⟨bz, fz + q, none⟩) (hb9'.block _ hbzc)).trans S2.out.2))
                have S10 := Lib.hid (And.intro ((World.cell?_of_block (a := ⟨wn.heap.size, 1, none⟩) (Below.heap_setCell _ ⟨G, 1, none⟩ (.slice p9 n9 c9) wn.heap.size hGn)).trans S9.out.1) ((World.cell?_of_block (a := ⟨bz, fz + q, none⟩) (Below.heap_setCell _ ⟨G, 1, none⟩ (.slice p9 n9 c9) bz hGb)).trans S9.out.2))
                refine hK4.out _ _ S9.out (fun _ => ?_)
                try simp only [Act.put, List.setIfInBounds_toArray, List.set_cons_zero, List.set_cons_succ]
                refine wpAnyH_ready (rs := [17]) (by kernel_rfl) (by simp) ?_
                refine AllReadyH.cons (o := { dst := some 106, op := Go.Op.fieldAddr 42 (Go.Operand.tmp 9) 1, type := 0, pos := "ref.go:196", after := #[{ on := 0, ground := Go.Ground.phase }, { on := 1, ground := Go.Ground.phase }, { on := 2, ground := Go.Ground.phase }, { on := 3, ground := Go.Ground.phase }, { on := 4, ground := Go.Ground.phase }, { on := 5, ground := Go.Ground.phase }, { on := 6, ground := Go.Ground.phase }, { on := 7, ground := Go.Ground.phase }, { on := 8, ground := Go.Ground.phase }, { on := 9, ground := Go.Ground.phase }, { on := 10, ground := Go.Ground.phase }, { on := 11, ground := Go.Ground.phase }, { on := 12, ground := Go.Ground.phase }, { on := 13, ground := Go.Ground.phase }, { on := 14, ground := Go.Ground.phase }, { on := 15, ground := Go.Ground.phase }, { on := 16, ground := Go.Ground.phase }], guard := none }) rfl (fun K6 hK6 => ?_) AllReadyH.nil
                go_simp
                refine hK6.out _ _ S9.out (fun _ => ?_)
                try simp only [Act.put, List.setIfInBounds_toArray, List.set_cons_zero, List.set_cons_succ]
                refine wpAnyH_ready (rs := [18]) (by kernel_rfl) (by simp) ?_
                refine AllReadyH.cons (o := { dst := none, op := Go.Op.store 40 (Go.Operand.tmp 106) (Go.Operand.tmp 105), type := 0, pos := "ref.go:196", after := #[{ on := 17, ground := Go.Ground.data }, { on := 16, ground := Go.Ground.data }, { on := 16, ground := Go.Ground.chain }, { on := 0, ground := Go.Ground.phase }, { on := 1, ground := Go.Ground.phase }, { on := 2, ground := Go.Ground.phase }, { on := 3, ground := Go.Ground.phase }, { on := 4, ground := Go.Ground.phase }, { on := 5, ground := Go.Ground.phase }, { on := 6, ground := Go.Ground.phase }, { on := 7, ground := Go.Ground.phase }, { on := 8, ground := Go.Ground.phase }, { on := 9, ground := Go.Ground.phase }, { on := 10, ground := Go.Ground.phase }, { on := 11, ground := Go.Ground.phase }, { on := 12, ground := Go.Ground.phase }, { on := 13, ground := Go.Ground.phase }, { on := 14, ground := Go.Ground.phase }, { on := 15, ground := Go.Ground.phase }, { on := 16, ground := Go.Ground.phase }], guard := none }) rfl (fun K5 hK5 => ?_) AllReadyH.nil
                go_simp
                refine hK5.out _ _ S10.out (fun _ => ?_)
                try simp only [Act.put, List.setIfInBounds_toArray, List.set_cons_zero, List.set_cons_succ]
                refine wpAnyH_done (by kernel_rfl) ?_ _
                go_wp2_with fail
                go_roundw
                case rel =>
                  exact ⟨q + 1, _, by go_num, by omega, by omega, Lib.hid KG.out.2, Lib.hid (by rw [HSN.out]; exact KG.out.1)⟩
                case measure => simp [intOf]; omega
              · go_simp
                refine hK2.out _ _ S2.out (fun _ => ?_)
                try simp only [Act.put, List.setIfInBounds_toArray, List.set_cons_zero, List.set_cons_succ]
                refine wpAnyH_ready (rs := [1]) (by kernel_rfl) (by simp) ?_
                refine AllReadyH.cons (o := { dst := some 90, op := Go.Op.load 40 (Go.Operand.tmp 89), type := 40, pos := "ref.go:196", after := #[{ on := 0, ground := Go.Ground.data }], guard := none }) rfl (fun K3 hK3 => ?_) AllReadyH.nil
                go_simp
                refine hK3.out _ _ S2.out (fun _ => ?_)
                try simp only [Act.put, List.setIfInBounds_toArray, List.set_cons_zero, List.set_cons_succ]
                refine wpAnyH_ready (rs := [16]) (by kernel_rfl) (by simp) ?_
                refine AllReadyH.cons (o := { dst := some 105, op := Go.Op.call { callee := Go.Callee.builtin Go.Builtin.append, args := #[Go.Operand.tmp 90, Go.Operand.tmp 104], argTypes := #[40, 40] }, type := 40, pos := "ref.go:196", after := #[{ on := 1, ground := Go.Ground.data }, { on := 15, ground := Go.Ground.data }], guard := none }) rfl (fun K4 hK4 => ?_) AllReadyH.nil
                refine step_append_str (by rfl) (by rfl) hQD.out.own (by rfl) (by rfl) (cell_keep (Below.refl _ _).drew (cell_alloc_new wp _ _ _ 0)) hnl hleD ?_
                intro v9 w9 ho9 hb9' hg9 hv9
                have KG := Lib.hid (QG.grow hGl rfl hUD.out hQD.out ho9 hb9')
                have hF9 : Bk G #[.string TZ, .slice pg ng cg, .int .i64 lz] w9 := hQD.out.blk.same (hb9'.block G hGl) hb9'.size
                obtain ⟨x0, x1, x2⟩ := hF9.three
                obtain ⟨y0, y1, y2⟩ := hF9.free3
                obtain ⟨p9, n9, c9, e9⟩ := own_sl ho9
                subst e9
                have S9 := Lib.hid (And.intro ((World.cell?_of_block (a := ⟨wn.heap.size, 1, none⟩) (hb9'.block _ hwnc)).trans S2.out.1) ((World.cell?_of_block (a := ⟨bz, fz + q, none⟩) (hb9'.block _ hbzc)).trans S2.out.2))
                have S10 := Lib.hid (And.intro ((World.cell?_of_block (a := ⟨wn.heap.size, 1, none⟩) (Below.heap_setCell _ ⟨G, 1, none⟩ (.slice p9 n9 c9) wn.heap.size hGn)).trans S9.out.1) ((World.cell?_of_block (a := ⟨bz, fz + q, none⟩) (Below.heap_setCell _ ⟨G, 1, none⟩ (.slice p9 n9 c9) bz hGb)).trans S9.out.2))
                refine hK4.out _ _ S9.out (fun _ => ?_)
                try simp only [Act.put, List.setIfInBounds_toArray, List.set_cons_zero, List.set_cons_succ]
                refine wpAnyH_ready (rs := [17]) (by kernel_rfl) (by simp) ?_
                refine AllReadyH.cons (o := { dst := some 106, op := Go.Op.fieldAddr 42 (Go.Operand.tmp 9) 1, type := 0, pos := "ref.go:196", after := #[{ on := 0, ground := Go.Ground.phase }, { on := 1, ground := Go.Ground.phase }, { on := 2, ground := Go.Ground.phase }, { on := 3, ground := Go.Ground.phase }, { on := 4, ground := Go.Ground.phase }, { on := 5, ground := Go.Ground.phase }, { on := 6, ground := Go.Ground.phase }, { on := 7, ground := Go.Ground.phase }, { on := 8, ground := Go.Ground.phase }, { on := 9, ground := Go.Ground.phase }, { on := 10, ground := Go.Ground.phase }, { on := 11, ground := Go.Ground.phase }, { on := 12, ground := Go.Ground.phase }, { on := 13, ground := Go.Ground.phase }, { on := 14, ground := Go.Ground.phase }, { on := 15, ground := Go.Ground.phase }, { on := 16, ground := Go.Ground.phase }], guard := none }) rfl (fun K6 hK6 => ?_) AllReadyH.nil
                go_simp
                refine hK6.out _ _ S9.out (fun _ => ?_)
                try simp only [Act.put, List.setIfInBounds_toArray, List.set_cons_zero, List.set_cons_succ]
                refine wpAnyH_ready (rs := [18]) (by kernel_rfl) (by simp) ?_
                refine AllReadyH.cons (o := { dst := none, op := Go.Op.store 40 (Go.Operand.tmp 106) (Go.Operand.tmp 105), type := 0, pos := "ref.go:196", after := #[{ on := 17, ground := Go.Ground.data }, { on := 16, ground := Go.Ground.data }, { on := 16, ground := Go.Ground.chain }, { on := 0, ground := Go.Ground.phase }, { on := 1, ground := Go.Ground.phase }, { on := 2, ground := Go.Ground.phase }, { on := 3, ground := Go.Ground.phase }, { on := 4, ground := Go.Ground.phase }, { on := 5, ground := Go.Ground.phase }, { on := 6, ground := Go.Ground.phase }, { on := 7, ground := Go.Ground.phase }, { on := 8, ground := Go.Ground.phase }, { on := 9, ground := Go.Ground.phase }, { on := 10, ground := Go.Ground.phase }, { on := 11, ground := Go.Ground.phase }, { on := 12, ground := Go.Ground.phase }, { on := 13, ground := Go.Ground.phase }, { on := 14, ground := Go.Ground.phase }, { on := 15, ground := Go.Ground.phase }, { on := 16, ground := Go.Ground.phase }], guard := none }) rfl (fun K5 hK5 => ?_) AllReadyH.nil
                go_simp
                refine hK5.out _ _ S10.out (fun _ => ?_)
                try simp only [Act.put, List.setIfInBounds_toArray, List.set_cons_zero, List.set_cons_succ]
                refine wpAnyH_done (by kernel_rfl) ?_ _
                go_wp2_with fail
                go_roundw
                case rel =>
                  exact ⟨q + 1, _, by go_num, by omega, by omega, Lib.hid KG.out.2, Lib.hid (by rw [HSN.out]; exact KG.out.1)⟩
                case measure => simp [intOf]; omega
            · have hendq : (X2.2.1.take q).map (fun v => strV (v.take 30)) = ((cutF X2).2.1).map strV := by
                show _ = ((X2.2.1.take 12).map (·.take 30)).map strV
                rw [List.map_map]
                have e : X2.2.1.take q = X2.2.1.take 12 := by
                  by_cases hk2 : q < vn
                  · rw [show q = 12 by omega]
                  · rw [List.take_of_length_le (by rw [HVN.out]; omega), List.take_of_length_le (by rw [HVN.out]; omega)]
                rw [e]
                rfl
              have hown := hQG.out.own
              rw [hendq] at hown
              have hMade : Made wn.heap.size (fun W => fldRA ln W (#[.string TZ, .slice pg ng cg, .int .i64 lz] : Array Value).toList (cutF X2)) wr :=
                (RowAt.made (RowAt.owned hown) fun b hb => Nat.le_trans hsz10 (hown.lt b hb).1).imp fun W g' => ⟨_, by rw [HCZ.out, ← HLZ.out]; rfl, g'⟩
              have hUn : Upd B wn wr := Upd.inner (Upd.of hb10 (by omega)) hUp3.out (by omega) (by omega)
              have hUw := Lib.hid (hUp2.out.trans hUn)
              have hBm : B < wm.heap.size := hBl
              have hLw := Lib.hid (Lst.upd hL2.out hUn hBm hBm)
              have hBG : B ≠ G := by omega
              have hBw := Lib.hid ((hBB.out.keep hb10).upd hUp3.out hBG)
              have hy := Lib.hid (fresh_elt' hL2.out hMade (by omega))
              have hl2n : l2.length ≤ 12 := by rw [hl2.out, List.length_map, List.length_take]; omega
              have hn1 : (l2.length + 1) * 48 ≤ 140737488355328 := by omega
              have hn2 : l2.length + 1 ≤ 9223372036854775807 := by omega
              have hle5 : wm.heap.size ≤ wr.heap.size := hUw.out.below.size
              obtain ⟨v0, v1, v2, v3⟩ := hBw.out.four
              clear hendq hown hMade hUn
              by_cases hk2 : q < vn
              · have t5 : (q : Int) < (vn : Int) := by omega
                have t6 : ¬ (q : Int) < 12 := by omega
                have t7 : decide ((q : Int) < 12) = false := by rw [decide_eq_false_iff_not]; omega
                clear hqt
                go_wp2_with (at_builtin; refine append_lst erF rfl rfl hLw.out rfl rfl rfl (by simp [Value.oneCell']) hn1 hn2 hle5 hy.out ?_; intro v4 w4 hL4 hb4 hg4 hv4; have hB4 : Bk B #[.string TK, .string TN, .slice pv nv cv, .int .i64 lx] w4 := hBw.out.same (hb4.block B hBm) hb4.size; obtain ⟨x0, x1, x2, x3⟩ := hB4.four; obtain ⟨y0, y1, y2, y3⟩ := hB4.free4; obtain ⟨p4, n4, c4, e4⟩ := own_sl hL4.own; subst e4)
                go_roundw
                case rel =>
                  have hu4 : Upd B wm w4 := ⟨fun b h1 h2 => (hb4.block b h1).trans (hUw.out.heap b h1 h2), hUw.out.below.trans (hb4.mono (by omega))⟩
                  exact ⟨j + 1, _, _, _, by go_num, by omega, by omega, Lib.hid (hu4.set 2 _), Lib.hid (hB4.put (o := 2) (by simp) _), Lib.hid (Lst.set_ hL4 hBm hBm), Lib.hid (by rw [HTJ.out, ← hl2.out])⟩
                case measure => simp [intOf]; omega
              · clear hqt
                go_wp2_with (at_builtin; refine append_lst erF rfl rfl hLw.out rfl rfl rfl (by simp [Value.oneCell']) hn1 hn2 hle5 hy.out ?_; intro v4 w4 hL4 hb4 hg4 hv4; have hB4 : Bk B #[.string TK, .string TN, .slice pv nv cv, .int .i64 lx] w4 := hBw.out.same (hb4.block B hBm) hb4.size; obtain ⟨x0, x1, x2, x3⟩ := hB4.four; obtain ⟨y0, y1, y2, y3⟩ := hB4.free4; obtain ⟨p4, n4, c4, e4⟩ := own_sl hL4.own; subst e4)
                go_roundw
                case rel =>
                  have hu4 : Upd B wm w4 := ⟨fun b h1 h2 => (hb4.block b h1).trans (hUw.out.heap b h1 h2), hUw.out.below.trans (hb4.mono (by omega))⟩
                  exact ⟨j + 1, _, _, _, by go_num, by omega, by omega, Lib.hid (hu4.set 2 _), Lib.hid (hB4.put (o := 2) (by simp) _), Lib.hid (Lst.set_ hL4 hBm hBm), Lib.hid (by rw [HTJ.out, ← hl2.out])⟩
                case measure => simp [intOf]; omega
        · have hendj : l2 = (cutB X1).2.2.1 := by
            rw [hl2.out]
            show _ = (X1.2.2.1.take 12).map cutF
            have e : X1.2.2.1.take j = X1.2.2.1.take 12 := by
              by_cases hk2 : j < m
              · rw [show j = 12 by omega]
              · rw [List.take_of_length_le (by rw [HM.out]; omega), List.take_of_length_le (by rw [HM.out]; omega)]
            rw [e]
          have hLm := hL2.out
          rw [hendj] at hLm
          have hMade : Made wo.heap.size (fun W => blkRA ln W (#[.string TK, .string TN, .slice pv nv cv, .int .i64 lx] : Array Value).toList (cutB X1)) wr :=
            (Made.mono (Lst.made hLm (Nat.le_refl _) (Nat.le_refl _)) (by omega)).imp fun W g' => ⟨_, by rw [HCK.out, HCN.out, ← HLX.out]; rfl, g'⟩
          have hb56 : Below wo.heap.size wo wc := hb5.trans (hb6.mono hb5.size)
          have hUn : Upd F wo wr := Upd.inner (Upd.of hb56 (by omega)) hUp2.out (by omega) (by omega)
          have hUw := Lib.hid (hUp.out.trans hUn)
          have hLw := Lib.hid (Lst.upd hL.out hUn hFZ hFZ)
          have hFB : F ≠ B := by omega
          have hFw2 := Lib.hid ((hBF.out.keep hb56).upd hUp2.out hFB)
          have hy := Lib.hid (fresh_elt' hL.out hMade (by omega))
          have hln : l.length ≤ 12 := by rw [hl.out, List.length_map, List.length_take]; omega
          have hn1 : (l.length + 1) * 64 ≤ 140737488355328 := by omega
          have hn2 : l.length + 1 ≤ 9223372036854775807 := by omega
          have hle5 : Z.heap.size ≤ wr.heap.size := hUw.out.below.size
          obtain ⟨f2, f3⟩ := hFw2.out.two
          clear hendj hLm hMade hUn
          by_cases hk2 : j < m
          · have t5 : (j : Int) < (m : Int) := by omega
            have t6 : ¬ (j : Int) < 12 := by omega
            have t7 : decide ((j : Int) < 12) = false := by rw [decide_eq_false_iff_not]; omega
            clear hjt
            go_wp2_with (at_builtin; refine append_lst erB rfl rfl hLw.out rfl rfl rfl (by simp [Value.oneCell']) hn1 hn2 hle5 hy.out ?_; intro v4 w4 hL4 hb4 hg4 hv4; have hF4 : Bk F #[.string T0, .slice pu nu cu] w4 := hFw2.out.same (hb4.block F hFZ) hb4.size; obtain ⟨x0, x1⟩ := hF4.two; obtain ⟨y0, y1⟩ := hF4.free2; obtain ⟨p4, n4, c4, e4⟩ := own_sl hL4.own; subst e4)
            go_roundw
            case rel =>
              have hu4 : Upd F Z w4 := ⟨fun b h1 h2 => (hb4.block b h1).trans (hUw.out.heap b h1 h2), hUw.out.below.trans (hb4.mono (by omega))⟩
              exact ⟨k + 1, _, _, _, by go_num, by omega, Lib.hid (hu4.set 1 _), Lib.hid (hF4.put (o := 1) (by simp) _), Lib.hid (Lst.set_ hL4 hFZ hFZ), Lib.hid (by rw [HTK.out, ← hl.out]), by omega⟩
            case measure => simp [intOf]; omega
          · clear hjt
            go_wp2_with (at_builtin; refine append_lst erB rfl rfl hLw.out rfl rfl rfl (by simp [Value.oneCell']) hn1 hn2 hle5 hy.out ?_; intro v4 w4 hL4 hb4 hg4 hv4; have hF4 : Bk F #[.string T0, .slice pu nu cu] w4 := hFw2.out.same (hb4.block F hFZ) hb4.size; obtain ⟨x0, x1⟩ := hF4.two; obtain ⟨y0, y1⟩ := hF4.free2; obtain ⟨p4, n4, c4, e4⟩ := own_sl hL4.own; subst e4)
            go_roundw
            case rel =>
              have hu4 : Upd F Z w4 := ⟨fun b h1 h2 => (hb4.block b h1).trans (hUw.out.heap b h1 h2), hUw.out.below.trans (hb4.mono (by omega))⟩
              exact ⟨k + 1, _, _, _, by go_num, by omega, Lib.hid (hu4.set 1 _), Lib.hid (hF4.put (o := 1) (by simp) _), Lib.hid (Lst.set_ hL4 hFZ hFZ), Lib.hid (by rw [HTK.out, ← hl.out]), by omega⟩
            case measure => simp [intOf]; omega
    · have hend : l = (cutS s).2 := by
        rw [hl.out]
        show _ = (s.2.take 12).map cutB
        congr 1
        by_cases hk2 : k < n
        · rw [show k = 12 by omega]
        · rw [List.take_of_length_le (by rw [HN.out]; omega), List.take_of_length_le (by rw [HN.out]; omega)]
      have hLf := Lst.set_ (F := w.heap.size + 1) (o := 1) (x := .slice pu nu cu) (Lst.set_ (F := w.heap.size + 1) (o := 0) (x := .string T0) hL.out (by omega) (by omega)) (by omega) (by omega)
      have HM := Lib.hid (Made.mono (Lst.made hLf (Nat.le_refl _) (Nat.le_refl _)) (by omega : w.heap.size ≤ _))
      rw [hend] at HM
      have hb9 := (hBel.setCell (p := ⟨w.heap.size + 1, 0, none⟩) (Nat.le_succ _) (.string T0)).setCell (p := ⟨w.heap.size + 1, 1, none⟩) (Nat.le_succ _) (.slice pu nu cu)
      clear hend hLf
      by_cases hk2 : k < n
      · have t1 : (k : Int) < (n : Int) := by omega
        have t2 : ¬ (k : Int) < 12 := by omega
        have t3 : decide ((k : Int) < 12) = false := by rw [decide_eq_false_iff_not]; omega
        clear hlt
        go_wp2_with fail
        refine bodyPost_ret (v := .agg #[.string T0, .slice pu nu cu]) (by simp [results, Try.results13, go_sem, b0, b1]) rfl ?_
        exact ⟨_, _, _, rfl, HM.out, hb9⟩
      · clear hlt
        go_wp2_with fail
        refine bodyPost_ret (v := .agg #[.string T0, .slice pu nu cu]) (by simp [results, Try.results13, go_sem, b0, b1]) rfl ?_
        exact ⟨_, _, _, rfl, HM.out, hb9⟩
end

end Go.Proofs.Ythdcgplocdehjaa
