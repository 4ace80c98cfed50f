/- The walk of TieRenames. -/
import Derived.Test.YthplbhgbgcfogaaT25
namespace Go.Proofs.Ythplbhgbgcfogaa
open Go.RowKit Go.Proofs.Kit Go.Proofs.Nums

set_option maxRecDepth 100000 in
set_option maxHeartbeats 8000000 in
theorem walk_TieRenames {ve vt : Value} {L : List (List Int)} {who : List Int} {w : World} (rule : Int) (hL : GridAt w ve L) (den : Int) (ht : IntsAt w vt who) (n code : Int) (hc1 : -9223372036854775808 ≤ code) (hc2 : code ≤ 9223372036854775807) (names : Int) (hd1 : -9223372036854775808 ≤ names) (hd2 : names ≤ 9223372036854775807) (least : Bool) :
    Calls Try.prog 7 #[.int .i64 rule, ve, .int .i64 den, vt, .int .i64 n, .int .i64 code, .int .i64 names, .bool least] w fun e w' => e = .returned (.bool true) ∧ Below w.heap.size w w' := by
  have AW := Lib.hid awake_c
  have RD : Hid (∀ w', Below w.heap.size w w' → Calls Try.prog 12 #[ve, .int .i64 den] w' fun e w'' => ∃ v', e = .returned v' ∧ (∃ M, M.length ≤ 6 ∧ ∃ css, LLst w'.heap.size v' w'' M css) ∧ Below w'.heap.size w' w'') := Lib.hid (fun w' hb => rounds_c (hL.keep hb) den)
  have HT := Lib.hid ht
  obtain ⟨n1, e1, n1a, n1b⟩ := mod_one n 7 (by omega)
  obtain ⟨r1, e2, r1a, r1b⟩ := mod_one rule 3 (by omega)
  have M7 : Hid (∀ w, Calls Try.prog 9 #[.int .i64 n, .int .i64 7] w fun e w' => e = .returned (.int .i64 (n % 7)) ∧ w = w') := Lib.hid (fun w => mod_c n 7 (by omega) (by omega) w)
  have M3 : Hid (∀ w, Calls Try.prog 9 #[.int .i64 rule, .int .i64 3] w fun e w' => e = .returned (.int .i64 (rule % 3)) ∧ w = w') := Lib.hid (fun w => mod_c rule 3 (by omega) (by omega) w)
  obtain ⟨a7, ha7⟩ : ∃ x, n % 7 = x := ⟨_, rfl⟩
  obtain ⟨a3, ha3⟩ : ∃ x, rule % 3 = x := ⟨_, rfl⟩
  rw [ha7] at M7
  rw [ha3] at M3
  have e1' : (1 : Int) + a7 = (n1 : Int) := by rw [← ha7]; exact e1
  have e2' : (1 : Int) + a3 = (r1 : Int) := by rw [← ha3]; exact e2
  have x1 : IntKind.i64.wrap (n1 : Int) = (n1 : Int) := w64 (by omega) (by omega)
  have x2 : IntKind.i64.wrap (r1 : Int) = (r1 : Int) := w64 (by omega) (by omega)
  have TI : Hid (∀ w', Below w.heap.size w w' → Calls Try.prog 10 #[.int .i64 n1, vt] w' fun e w'' => ∃ v', e = .returned v' ∧ IntsAt w'' v' (tiedS n1 who) ∧ Below w'.heap.size w' w'') := Lib.hid (fun w' hb => tied_c (HT.out.keep hb) n1 n1a (by omega))
  have PE : Hid (∀ w', Calls Try.prog 11 #[.int .i64 n1, .int .i64 code] w' fun e w'' => ∃ v', e = .returned v' ∧ IntsAt w'' v' (permS n1 code) ∧ Fresh w'.heap.size v' ∧ Below w'.heap.size w' w'') := Lib.hid (fun w' => perm_x n1 (by omega) code hc1 hc2 w')
  have PN : Hid (∀ w', Calls Try.prog 11 #[.int .i64 n1, .int .i64 names] w' fun e w'' => ∃ v', e = .returned v' ∧ IntsAt w'' v' (permS n1 names) ∧ Fresh w'.heap.size v' ∧ Below w'.heap.size w' w'') := Lib.hid (fun w' => perm_x n1 (by omega) names hd1 hd2 w')
  have PK := Lib.hid (fun vt vl w M M' h1 h2 h3 h4 => @ren_pack vt vl who code names r1 n1 w h1 h2 n1a n1b (by omega) (by omega) least M M' h3 h4)
  have HR := Lib.hid (sig_ren n1 names)
  have HLP := Lib.hid (perm_len n1 names)
  have HT1 : BalP n1 (tiedS n1 who) := by
    rcases tied_bal n1a who with ⟨g, _⟩ | g
    · exact g
    · omega
  have HT3 : (tiedS n1 who).length ≤ n1 := nodup_len _ _ HT1.2 HT1.1
  have RN1 : Hid (∀ w v vt, IntsAt w v (tiedS n1 who) → IntsAt w vt (permS n1 names) → Calls Try.prog 20 #[v, vt] w fun e w' => ∃ v', e = .returned v' ∧ IntsAt w' v' (renameS (tiedS n1 who) (permS n1 names)) ∧ Below w.heap.size w w') := Lib.hid (fun w v vt h1 h2 => (rename_c h1 h2 (by omega) (fun x hx => by have := HT1.1 x hx; rw [perm_len]; exact this)).mono (by rintro e w' ⟨v', rfl, g1, _, g2⟩; exact ⟨v', rfl, g1, g2⟩))
  have RN2 : Hid (∀ w v vt, IntsAt w v (permS n1 code) → IntsAt w vt (permS n1 names) → Calls Try.prog 20 #[v, vt] w fun e w' => ∃ v', e = .returned v' ∧ IntsAt w' v' (renameS (permS n1 code) (permS n1 names)) ∧ Below w.heap.size w w') := Lib.hid (fun w v vt h1 h2 => (rename_c h1 h2 (by rw [perm_len]; omega) (fun x hx => by rw [perm_len]; exact (perm_bal n1 code).1 x hx)).mono (by rintro e w' ⟨v', rfl, g1, _, g2⟩; exact ⟨v', rfl, g1, g2⟩))
  have RI : Hid (∀ w v, IntsAt w v (renameS (tiedS n1 who) (permS n1 names)) → Calls Try.prog 19 #[v] w fun e w' => ∃ v', e = .returned v' ∧ IntsAt w' v' (risingS (renameS (tiedS n1 who) (permS n1 names))) ∧ Below w.heap.size w w') := Lib.hid (fun w v h => (rising_c h).mono (by rintro e w' ⟨v', rfl, g1, _, g2⟩; exact ⟨v', rfl, g1, g2⟩))
  have SG : Hid (∀ k : Nat, (permS n1 names).getD k 0 = sig n1 names k) := Lib.hid (fun k => by unfold sig; rw [Int.toNat_natCast])
  obtain ⟨s, hs⟩ : ∃ s, sig n1 names = s := ⟨_, rfl⟩
  rw [hs] at PK HR SG
  obtain ⟨rt, hrt⟩ : ∃ x, renameS (tiedS n1 who) (permS n1 names) = x := ⟨_, rfl⟩
  rw [hrt] at PK RN1 RI
  obtain ⟨rl, hrl⟩ : ∃ x, renameS (permS n1 code) (permS n1 names) = x := ⟨_, rfl⟩
  rw [hrl] at PK RN2
  obtain ⟨ri, hri⟩ : ∃ x, risingS rt = x := ⟨_, rfl⟩
  rw [hri] at PK RI
  obtain ⟨ti, hti⟩ : ∃ x, tiedS n1 who = x := ⟨_, rfl⟩
  obtain ⟨pe, hpe⟩ : ∃ x, permS n1 code = x := ⟨_, rfl⟩
  obtain ⟨pn, hpn⟩ : ∃ x, permS n1 names = x := ⟨_, rfl⟩
  rw [hti] at TI PK RN1
  rw [hpe] at PE PK RN2
  rw [hpn] at PN PK RN1 RN2 SG HLP
  clear e1 e2 ha7 ha3 hti hpe hpn hrt hrl hri hs HT1 HT3 ht hL
  go_enter Try.func7, Try.ntmps7
  go_wp2_with (first
    | (go_at_call 9; ((with_reducible refine (M7.out _).mono ?_); rintro e w9 ⟨rfl, rfl⟩))
    | (go_at_call 9; ((with_reducible refine (M3.out _).mono ?_); rintro e w9 ⟨rfl, rfl⟩))
    | (go_at_call 10; ((with_reducible refine (TI.out _ (Below.refl _ _)).mono ?_); rintro e w5 ⟨v5, rfl, ht5, hb5⟩))
    | (go_at_call 11; ((with_reducible refine (PE.out _).mono ?_); rintro e w6 ⟨v6, rfl, hl6, _, hb6⟩; have hB6 := bel2' hb5 hb6))
    | (go_at_call 11; ((with_reducible refine (PN.out _).mono ?_); rintro e w7 ⟨v7, rfl, hn7, _, hb7⟩; have hB7 := bel2' hB6 hb7))
    | (go_at_call 12; ((with_reducible refine (RD.out _ hB7).mono ?_); rintro e w8 ⟨v8, rfl, ⟨M, hM6, css, hL8⟩, hb8⟩; have hB8 := bel2' hB7 hb8; have H5 := Lib.hid (ht5.keep (bel2' (bel2' hb6 hb7) hb8)); have H6 := Lib.hid (hl6.keep (bel2' hb7 hb8)); have H7 := Lib.hid (hn7.keep hb8); obtain ⟨p8, c8, rfl⟩ := RoundsAt.shp hL8.slice; have HL8 := Lib.hid hL8; obtain ⟨m, hm⟩ : ∃ m, M.length = m := ⟨_, rfl⟩; have HM := Lib.hid hm; rw [hm] at hM6 HL8; rw [hm]; clear hm; obtain ⟨p7, c7, rfl⟩ := hn7.shape; clear ht5 hl6 hn7 hL8)))
  rw [HLP.out] at H7
  rw [HLP.out]
  go_loopw [21, 22] (fun mv iv wr => ∃ k : Nat, ∃ Mk css, k ≤ m ∧ iv = .int .i64 k ∧ Mk.length = k ∧ Below w8.heap.size w8 wr ∧ Hid (Lst rowR 0 w8.heap.size 34 1 mv wr Mk css) ∧ Hid (RowsRen (RowRen s n1) (M.take k) Mk)) (fun _ iv _ => m - (intOf iv).toNat)
  case atStart => exact ⟨0, [], [], by omega, rfl, rfl, Below.refl _ _, Lib.hid (Lst.nil _), Lib.hid trivial⟩
  case round =>
    obtain ⟨k, Mk, cm, hk, rfl, hMk, hbel, hLm, hRm⟩ := hrel
    have hbw := bel2' hB8 hbel
    by_cases hkm : k < m
    · have hkz : (k : Int) < (m : Int) := by omega
      obtain ⟨r, hr⟩ : ∃ r, M.getD k [] = r := ⟨_, rfl⟩
      obtain ⟨g8, cap8, u, hv, hc1', hc2', hcell, hOn⟩ := HL8.out.cellOn (k := k) (by rw [HM.out]; exact hkm) hr
      rw [HM.out] at hv hc1'
      simp only [Value.slice.injEq, true_and] at hv
      obtain ⟨rfl, rfl⟩ := hv
      obtain ⟨u', eu, hrow⟩ := hOn.now
      obtain rfl := (List.cons.inj eu).1
      obtain ⟨pr, cr, rfl⟩ := RatsAt.shp hrow
      obtain ⟨rl2, hrl2⟩ : ∃ x, r.length = x := ⟨_, rfl⟩
      rw [hrl2] at hrow hcell
      have HRL := Lib.hid hrl2
      have HROW := Lib.hid hrow
      have hrm := SliceOf.len hrow
      rw [hrl2] at hrm
      have HCE := Lib.hid hcell
      have HTK := Lib.hid (fun (v : List Q) (h : RowRen s n1 r v) => RowsRen.take (P := RowRen s n1) hRm.out (by rw [HM.out]; exact hkm) hr h)
      have hcellr := cell_keep hbel HCE.out
      obtain ⟨wo, rfl⟩ : ∃ x, x = wr := ⟨_, rfl⟩
      clear hr hrow hOn hcell hrl2 eu
      go_wp2_with (first
        | (at_make; go_must (refine make_any erI rfl rfl rfl rfl (by omega) (by omega) (by omega) ?_); intro w10 hown10 hb10; rw [show ((n1 : Int)).toNat = n1 by omega] at hown10 ⊢; have own10 := Lib.hid (OwnInt.made hown10); clear hown10)
        | (go_at_call 18; ((with_reducible refine (wholes_own own10.out (fun y hy => by rw [(List.mem_replicate.1 hy).2]; omega) (by omega)).mono ?_); rintro e w11 ⟨v11, rfl, ⟨cs11, hR11⟩, hb11⟩; have hb1011 := bel2' hb10 hb11; have hs10 := hb10.size; have hbo := hbel.size; obtain ⟨g, cap, rfl, hcg1, hcg2, hg1, hg2, hV⟩ := VRow.start (C := w8.heap.size) (n := n1) hR11 (by rw [wholes_len, List.length_replicate]) (by omega); have HV := Lib.hid hV; clear hR11 hV)))
      go_loopw [24] (fun jv wq => ∃ j : Nat, ∃ qs css, j ≤ n1 ∧ jv = .int .i64 j ∧ Below w10.heap.size w11 wq ∧ Hid (VRow w8.heap.size w10.heap.size g n1 wq qs css) ∧ Hid (LaidTo s n1 j r qs)) (fun jv _ => n1 - (intOf jv).toNat)
      case atStart => exact ⟨0, _, _, by omega, rfl, Below.refl _ _, HV, Lib.hid (LaidTo.start HR.out)⟩
      case round =>
        obtain ⟨j, qs, cv, hj, rfl, hbq, hVR, hLT⟩ := hrel
        have hboq : Below wo.heap.size wo wr := hb1011.trans (hbq.mono hs10)
        have hb8q := bel2' hbel hboq
        have hcellq := cell_keep hb8q HCE.out
        by_cases hjn : j < n1
        · have hjz : (j : Int) < (n1 : Int) := by omega
          by_cases hjr : j < rl2
          · have hjrz : (j : Int) < (rl2 : Int) := by omega
            obtain ⟨q, hq⟩ : ∃ q, r.getD j (Q.of 0) = q := ⟨_, rfl⟩
            obtain ⟨b2, o2, p3, l3, c3, p4, l4, c4, rfl, hc3, hc4, hon, z0, z1, z2⟩ := HROW.out.cellsOn (k := j) (by rw [HRL.out]; exact hjr) hq
            rw [HRL.out] at hc3
            have d0 := cell_keep hb8q z0
            have d1 := cell_keep hb8q z1
            have d2 := cell_keep hb8q z2
            have HON := Lib.hid (On.step hon fun b hb => hb8q.block b hb)
            have hsr := HR.out.rng j (by omega) (by omega)
            obtain ⟨sj, hsj⟩ : ∃ sj : Nat, s j = sj := ⟨(s j).toNat, by omega⟩
            have hsj1 : sj < n1 := by omega
            have hsz : (sj : Int) < (n1 : Int) := by omega
            obtain ⟨b7, o7, rfl, hc71, hc72, hcell7⟩ := H7.out.cellAt j (by rw [HLP.out]; exact hjn)
            rw [SG.out, hsj] at hcell7
            have hcell7q := cell_keep hb8q hcell7
            have HS := Lib.hid (LaidTo.step HR.out hLT.out hjn hq hsj)
            obtain ⟨y0, y1, y2, f0, f1, f2, f3, f4, f5⟩ := hVR.out.cells hsj1
            have HP := Lib.hid (hVR.out.put hsj1 (x := .bool false) (y := .slice p3 l3 c3) (z := .slice p4 l4 c4) (q := q) (by omega) HON.out)
            clear hq hsr hsj hcell7 z0 z1 z2 hon
            go_wp2_with fail
            go_region
            all_goals
              go_wp2_with fail
              go_roundw
              case rel =>
                obtain ⟨⟨css', hV'⟩, hb'⟩ := HP.out
                exact ⟨j + 1, _, css', by omega, by go_num, (hbq.trans hb').drew, Lib.hid (hV'.keep (Below.refl _ _).drew), HS⟩
              case measure => simp [intOf] <;> omega
          · have hjrz : ¬ (j : Int) < (rl2 : Int) := by omega
            have HE := Lib.hid (On.mono (G := fun b => 0 ≤ b ∧ b < wr.heap.size ∧ u21.ownBlock ≠ some b) ((hVR.out.read hcg1 hcg2).imp fun w' g => (⟨_, rfl, g⟩ : rowR w' [_] qs)) fun b hb => ⟨Nat.zero_le _, hb.2, fun e => by have h1 := hLm.out.lt b e; have h2 := hb.1; omega⟩)
            have HD := Lib.hid (HTK.out qs (LaidTo.done hLT.out (by rw [HRL.out]; omega)))
            have HLm := Lib.hid (hLm.out.keep hboq)
            have hsz8 := hb8q.size
            go_wp2_with (at_builtin; go_must (refine append_lst erRR rfl rfl HLm.out rfl rfl rfl (by simp [Value.oneCell']) (by omega) (by omega) hsz8 HE.out ?_); intro v' w4 hL4 hb4 hg4 hv4; have HL4 := Lib.hid hL4; clear hL4)
            go_roundw
            case rel => exact ⟨k + 1, _, _, by omega, by go_num, by simp [hMk], hb8q.trans hb4, HL4, HD⟩
            case measure => simp [intOf] <;> omega
        · have hjz : ¬ (j : Int) < (n1 : Int) := by omega
          have HE := Lib.hid (On.mono (G := fun b => 0 ≤ b ∧ b < wr.heap.size ∧ u21.ownBlock ≠ some b) ((hVR.out.read hcg1 hcg2).imp fun w' g => (⟨_, rfl, g⟩ : rowR w' [_] qs)) fun b hb => ⟨Nat.zero_le _, hb.2, fun e => by have h1 := hLm.out.lt b e; have h2 := hb.1; omega⟩)
          have HD := Lib.hid (HTK.out qs (LaidTo.done hLT.out (by rw [HRL.out]; omega)))
          have HLm := Lib.hid (hLm.out.keep hboq)
          have hsz8 := hb8q.size
          go_wp2_with (at_builtin; go_must (refine append_lst erRR rfl rfl HLm.out rfl rfl rfl (by simp [Value.oneCell']) (by omega) (by omega) hsz8 HE.out ?_); intro v' w4 hL4 hb4 hg4 hv4; have HL4 := Lib.hid hL4; clear hL4)
          go_roundw
          case rel => exact ⟨k + 1, _, _, by omega, by go_num, by simp [hMk], hb8q.trans hb4, HL4, HD⟩
          case measure => simp [intOf] <;> omega
    · have hkz : ¬ (k : Int) < (m : Int) := by omega
      have HMr : Hid (RoundsAt wr (.slice p8 m c8) M) := Lib.hid (by rw [← HM.out] at HL8 ⊢; exact (show RoundsAt w8 _ M from HL8.out.slice).keep hbel)
      have HMk : Hid (RoundsAt wr u21 Mk) := Lib.hid hLm.out.slice
      have hRf := hRm.out
      rw [List.take_of_length_le (by rw [HM.out]; omega)] at hRf
      have H5r := H5.out.keep hbel
      have H6r := H6.out.keep hbel
      have H7r := Lib.hid (H7.out.keep hbel)
      obtain ⟨x, b, y, hx, hy, B1, B2⟩ := PK.out _ _ _ _ _ H5r H6r HMr.out.shs hRf
      have B1 := Lib.hid B1
      have B2 := Lib.hid B2
      have HY := Lib.hid hy
      have H5r := Lib.hid H5r
      have H6r := Lib.hid H6r
      have hx0 : (0 : Int) ≤ (x : Int) := by omega
      have hxz : (x : Int) < (n1 : Int) := by omega
      clear hy hRf
      go_wp2_with (first
        | (go_at_call 13; ((with_reducible refine (B1.out _ _ (Below.refl _ _) HMr.out).mono ?_); rintro e w20 ⟨rfl, hb20⟩; have hB20 := bel2' hbw hb20))
        | (go_at_call 20; ((with_reducible refine (RN1.out _ _ _ (H5r.out.keep hb20) (H7r.out.keep hb20)).mono ?_); rintro e w21 ⟨v21, rfl, h21, hb21⟩; have hB21 := bel2' hB20 hb21; have hr21 := bel2' hb20 hb21))
        | (go_at_call 19; ((with_reducible refine (RI.out _ _ h21).mono ?_); rintro e w22 ⟨v22, rfl, h22, hb22⟩; have hB22 := bel2' hB21 hb22; have hr22 := bel2' hr21 hb22))
        | (go_at_call 20; ((with_reducible refine (RN2.out _ _ _ (H6r.out.keep hr22) (H7r.out.keep hr22)).mono ?_); rintro e w23 ⟨v23, rfl, h23, hb23⟩; have hB23 := bel2' hB22 hb23; have hr23 := bel2' hr22 hb23; have h22k := h22.keep hb23))
        | (go_at_call 13; ((with_reducible refine (B2.out _ _ _ _ (HMk.out.keep hr23) h22k h23).mono ?_); rintro e w24 ⟨rfl, hb24⟩; have hB24 := bel2' hB23 hb24; have hr24 := bel2' hr23 hb24))
        | (go_at_call 8; ((with_reducible refine (AW.out _).mono ?_); rintro e w25 ⟨rfl, hb25⟩; have hB25 := bel2' hB24 hb25; have hr25 := bel2' hr24 hb25; obtain ⟨b7, o7, hp7, hc71, hc72, hcell7⟩ := (H7r.out.keep hr25).cellAt x (by rw [HLP.out]; exact hx); subst hp7; rw [HY.out] at hcell7)))
      go_ret
      exact ⟨rfl, hB25⟩

end Go.Proofs.Ythplbhgbgcfogaa
