/- Contracts and plain facts, part 9: T14, T17, T18, T19, T20, T22, T24. No condition beyond those that each theorem states. -/
import Derived.Test.YtbnhgmikegdppaaGreatQH
/- The reference's Break: it is breakS. -/
namespace Go.Proofs.Nums
theorem pick_one {lots : List Int} {least : Bool} {l : List Int} (h : l ≠ []) : l.getD 0 0 = pickS lots least (l.take 1) := by
  cases l with
  | nil => exact absurd rfl h
  | cons a t => rfl
theorem pick_yes {lots : List Int} {least : Bool} {b y p : Int} (h : decide (placeN lots b < placeN lots y) = least) (e : p = pickStep lots least b y) : y = p := by
  rw [e, pickStep, if_pos h]
theorem pick_no {lots : List Int} {least : Bool} {b y p : Int} (h : decide (placeN lots b < placeN lots y) ≠ least) (e : p = pickStep lots least b y) : b = p := by
  rw [e, pickStep, if_neg h]
end Go.Proofs.Nums
namespace Go.Proofs.YtbnhgmikegdppaaGreat
open Go.RowKit Go.Proofs.Kit Go.Proofs.Nums

set_option maxRecDepth 100000 in
set_option maxHeartbeats 8000000 in
theorem rbreak_1 {ve vt vl : Value} {L : List (List Q)} {tied lots : List Int} {w : World} (hL : RoundsAt w ve L) (ht : IntsAt w vt tied) (hl : IntsAt w vl lots) (least : Bool) (hv : validS 1 tied lots = true) :
    Calls Tryz.prog 38 #[.int .i64 1, ve, vt, vl, .bool least] w fun e w' => e = .returned (.tuple #[.int .i64 (breakS 1 L tied lots least).1, .bool (breakS 1 L tied lots least).2]) ∧ Below w.heap.size w w' := by
  obtain ⟨⟨_, _, _, hl7⟩, hbl, htne, hbt, htp⟩ := (valid_eq _ _ _).1 hv
  have htlen := nodup_len _ _ hbt.2 hbt.1
  have hLm : L.length ≤ 9223372036854775807 := SliceOf.len hL
  have HL := Lib.hid hL
  have HT := Lib.hid ht
  have HLO := Lib.hid hl
  have HSUB : Hid (∀ x ∈ tied, x ∈ lots) := Lib.hid (fun x hx => bal_mem hbl (hbt.1 x hx).1 (hbt.1 x hx).2)
  have HRG : Hid (∀ x ∈ tied, 0 ≤ x ∧ x < 1000) := Lib.hid (fun x hx => by have := hbt.1 x hx; omega)
  have HND := Lib.hid hbt.2
  have HTNE := Lib.hid htne
  have h7 : lots.length ≤ 1000 := by omega
  have h71 : tied.length ≤ 1000 := by omega
  have TV : Hid (∀ w', Below w.heap.size w w' → Calls Tryz.prog 60 #[.int .i64 1, vt, vl] w' fun e w'' => e = .returned (.bool true) ∧ Below w'.heap.size w' w'') := Lib.hid (fun w' hb => by
    have := rtie_c (ht.keep hb) (hl.keep hb) 1
    rw [hv] at this
    exact this)
  have HBR := Lib.hid (fun l' h => break_of (L := L) (l := l') (least := least) hv h)
  obtain ⟨ra, hra⟩ : ∃ x, (breakS 1 L tied lots least).1 = x := ⟨_, rfl⟩
  obtain ⟨rb, hrb⟩ : ∃ x, (breakS 1 L tied lots least).2 = x := ⟨_, rfl⟩
  rw [hra, hrb] at HBR
  rw [hra, hrb]
  clear hra hrb hv hbl htne hbt htp hl7
  obtain ⟨p2, c2, rfl⟩ := hL.shp
  obtain ⟨p3, c3, rfl⟩ := ht.shape
  obtain ⟨p4, c4, rfl⟩ := hl.shape
  have PL : Hid (∀ w', Below w.heap.size w w' → ∀ x, Calls Tryz.prog 62 #[.slice p4 lots.length c4, .int .i64 x] w' fun e w'' => e = .returned (.int .i64 (placeN lots x : Nat)) ∧ w' = w'') := Lib.hid (fun w' hb x => place_c (hl.keep hb) x)
  obtain ⟨R, hR⟩ : ∃ R, roundsS 1 L = R := ⟨_, rfl⟩
  have HRR : Hid (R.length = L.length ∧ R = L.reverse) := Lib.hid (by rw [← hR]; exact ⟨List.length_reverse, rfl⟩)
  rw [hR] at HBR
  obtain ⟨n, hn⟩ : ∃ n, L.length = n := ⟨_, rfl⟩
  obtain ⟨nt, hnt⟩ : ∃ n, tied.length = n := ⟨_, rfl⟩
  obtain ⟨nl, hnl⟩ : ∃ n, lots.length = n := ⟨_, rfl⟩
  have HN := Lib.hid hn
  have HNL : Hid (lots.length ≤ 1000) := Lib.hid h7
  have HNT : Hid (tied.length ≤ 1000) := Lib.hid h71
  rw [hn] at hLm HL
  rw [hn]
  rw [hnt] at HT TV
  rw [hnl] at HLO TV PL
  rw [hnt, hnl]
  clear hL ht hl hR hn hnt hnl h7 h71 htlen
  go_enter Tryz.func38, Tryz.ntmps38
  go_wp2_with (go_at_call 60; ((with_reducible refine (TV.out _ (Below.refl _ _)).mono ?_); rintro e w1 ⟨rfl, hb1⟩))
  go_loopw [12, 13] (fun lv iv wr => ∃ k : Nat, ∃ l : List Int, k ≤ n ∧ iv = .int .i64 k ∧ IntsAt wr lv l ∧ Below w.heap.size w wr ∧ Hid (l ≠ [] ∧ l.Sublist tied ∧ leftS least R tied = leftS least (R.drop k) l)) (fun _ iv _ => n - (intOf iv).toNat)
  case atStart => exact ⟨0, tied, by omega, rfl, HT.out.keep hb1, hb1, Lib.hid ⟨HTNE.out, List.Sublist.refl _, rfl⟩⟩
  case round =>
    obtain ⟨k, l, hk, rfl, hI, hbel, hP⟩ := hrel
    obtain ⟨p1, c1, rfl⟩ := hI.shape
    obtain ⟨m, hm⟩ : ∃ n, l.length = n := ⟨_, rfl⟩
    have HM := Lib.hid hm
    have HI := Lib.hid hI
    rw [hm] at HI
    have hmle : m ≤ 1000 := by rw [← hm]; exact Nat.le_trans hP.out.2.1.length_le HNT.out
    have hm0 : 0 < m := by rw [← hm]; exact List.length_pos_iff.2 hP.out.1
    have hm0z : (0 : Int) < (m : Int) := by omega
    rw [hm]
    clear hI hm
    by_cases hkn : k < n
    · have hkz : (k : Int) < (n : Int) := by omega
      obtain ⟨n1, hn1⟩ : ∃ n1 : Nat, n1 + 1 = n := ⟨n - 1, by omega⟩
      obtain ⟨j, hj⟩ : ∃ j : Nat, j + k = n1 := ⟨n1 - k, by omega⟩
      have en1 : (n : Int) - 1 = (n1 : Int) := by omega
      have ej : (n1 : Int) - (k : Int) = (j : Int) := by omega
      have en2 : IntKind.i64.wrap (n1 : Int) = (n1 : Int) := w64 (by omega) (by omega)
      have ej2 : IntKind.i64.wrap (j : Int) = (j : Int) := w64 (by omega) (by omega)
      have hjn : j < n := by omega
      have hjz : (j : Int) < (n : Int) := by omega
      by_cases hm1 : 1 < m
      · have hmz : (1 : Int) < (m : Int) := by omega
        obtain ⟨v, hv⟩ : ∃ v, L.getD j [] = v := ⟨_, rfl⟩
        obtain ⟨bb, off, u, hp0, hcc, hcm, hcell, hrow⟩ := (HL.out.keep hbel).cellAt (k := j) (by rw [HN.out]; omega) hv
        subst hp0
        have HRK : Hid (R.getD k [] = v) := Lib.hid (by rw [← hv]; rw [HRR.out.2, rev_get (j := j) (by rw [HN.out]; omega)])
        have HST := Lib.hid (lround_step (by rw [HRR.out.1, HN.out]; exact hkn) HRK.out hP.out.2.2 (by rw [HM.out]; exact hm1))
        have HNE : Hid (extA (ltV v least) l ≠ []) := Lib.hid (extA_ne' (ltV_swo hrow.shs least) hP.out.1)
        have HS2 : Hid ((extA (ltV v least) l).Sublist tied) := Lib.hid (extA_sub.trans hP.out.2.1)
        have EX := Lib.hid (extreme_c hrow HI.out (fun x hx => HRG.out x (hP.out.2.1.subset hx)) (by rw [HM.out]; omega) least)
        obtain ⟨pr, nr, cr, rfl⟩ := hrow.sl
        clear hv hrow
        go_wp2_with (go_at_call 61; ((with_reducible refine EX.out.mono ?_); rintro e w5 ⟨v5, rfl, hi5, hb5⟩; have hB5 := bel2' hbel hb5))
        go_roundw
        case rel => exact ⟨k + 1, _, by omega, by go_num, hi5, hB5, Lib.hid ⟨HNE.out, HS2.out, HST.out⟩⟩
        case measure => simp [intOf] <;> omega
      · have hmz : ¬ (1 : Int) < (m : Int) := by omega
        have HST := Lib.hid (lround_skip (least := least) (by rw [HRR.out.1, HN.out]; exact hkn) hP.out.2.2 (by rw [HM.out]; exact hm1))
        go_wp2_with fail
        go_roundw
        case rel => exact ⟨k + 1, _, by omega, by go_num, HI.out, hbel, Lib.hid ⟨hP.out.1, hP.out.2.1, HST.out⟩⟩
        case measure => simp [intOf] <;> omega
    · have hkz : ¬ (k : Int) < (n : Int) := by omega
      have HE : Hid (leftS least R tied = l) := Lib.hid (lround_end (.inl (by rw [HRR.out.1, HN.out]; exact hkn)) hP.out.2.2)
      have hBR := HBR.out l HE.out
      rw [HM.out] at hBR
      obtain ⟨bb, off, hp0, _, _, hcell⟩ := HI.out.cellAt 0 (by rw [HM.out]; omega)
      subst hp0
      have hcell : wr.cell? ⟨bb, off, none⟩ = some (.int .i64 (l.getD 0 0)) := hcell
      obtain ⟨x, hx⟩ : ∃ x, l.getD 0 0 = x := ⟨_, rfl⟩
      by_cases hm1 : m = 1
      · subst hm1
        have HX : Hid (ra = l.getD 0 0 ∧ rb = false) := Lib.hid (by rw [← head_getD HM.out]; exact hBR.1 rfl)
        rw [hx] at hcell HX
        clear hBR hx
        go_wp2_with fail
        go_ret2
        exact ⟨ret_ib HX.out.1.symm HX.out.2.symm, hbel⟩
      · have hmz : ((m : Int) == 1) = false := by rw [beq_eq_false_iff_ne]; omega
        have HX : Hid (ra = pickS lots least l ∧ rb = true) := Lib.hid (hBR.2 hm1)
        have H0 : Hid (x = pickS lots least (l.take 1)) := Lib.hid (by rw [← hx]; exact pick_one hP.out.1)
        rw [hx] at hcell
        clear hBR hx
        obtain ⟨wo, rfl⟩ : ∃ x, x = wr := ⟨_, rfl⟩
        go_wp2_with fail
        go_loopw [15, 16] (fun bv iv wq => ∃ i : Nat, ∃ b : Int, 1 ≤ i ∧ i ≤ m ∧ iv = .int .i64 i ∧ bv = .int .i64 b ∧ Below wo.heap.size wo wq ∧ Hid (b = pickS lots least (l.take i))) (fun _ iv _ => m - (intOf iv).toNat)
        case atStart => exact ⟨1, x, by omega, by omega, rfl, rfl, Below.refl _ _, H0⟩
        case round =>
          obtain ⟨i, b, hi1, him, rfl, rfl, hbq, hB⟩ := hrel
          have hbelq := bel2' hbel hbq
          by_cases hil : i < m
          · have hiz : (i : Int) < (m : Int) := by omega
            obtain ⟨bb2, off2, hp2, _, _, hcelli⟩ := (HI.out.keep hbq).cellAt i (by rw [HM.out]; exact hil)
            simp only [Option.some.injEq, Addr.mk.injEq, and_true] at hp2
            obtain ⟨rfl, rfl⟩ := hp2
            obtain ⟨y, hy⟩ : ∃ y, l.getD i 0 = y := ⟨_, rfl⟩
            have HS := Lib.hid (pick_take (lots := lots) (least := least) (l := l) (k := i) (by omega) (by rw [HM.out]; exact hil) hy)
            rw [hy] at hcelli
            rw [← hB.out] at HS
            have HPY := Lib.hid (@pick_yes lots least b y _ · HS.out)
            have HPN := Lib.hid (@pick_no lots least b y _ · HS.out)
            obtain ⟨px, hpx⟩ : ∃ x, placeN lots y = x := ⟨_, rfl⟩
            obtain ⟨pb, hpb⟩ : ∃ x, placeN lots b = x := ⟨_, rfl⟩
            rw [hpx, hpb] at HPY HPN
            have PX : Hid (∀ w', Below w.heap.size w w' → Calls Tryz.prog 62 #[.slice p4 nl c4, .int .i64 y] w' fun e w'' => e = .returned (.int .i64 px) ∧ w' = w'') := Lib.hid (fun w' hb => by rw [← hpx]; exact PL.out w' hb y)
            have PB : Hid (∀ w', Below w.heap.size w w' → Calls Tryz.prog 62 #[.slice p4 nl c4, .int .i64 b] w' fun e w'' => e = .returned (.int .i64 pb) ∧ w' = w'') := Lib.hid (fun w' hb => by rw [← hpb]; exact PL.out w' hb b)
            clear hy hpx hpb
            by_cases hpp : pb < px
            · have hpz : (pb : Int) < (px : Int) := by omega
              cases least
              · have HR2 : Hid (b = pickS lots false (l.take (i + 1))) := Lib.hid (HPN.out (by simp [hpp]))
                clear hpp
                go_wp2_with (first | (go_at_call 62; ((with_reducible refine (PX.out _ hbelq).mono ?_); rintro e w3 ⟨rfl, rfl⟩)) | (go_at_call 62; ((with_reducible refine (PB.out _ hbelq).mono ?_); rintro e w3 ⟨rfl, rfl⟩)))
                go_roundw
                case rel => exact ⟨i + 1, b, by omega, by omega, by go_num, rfl, hbq, HR2⟩
                case measure => simp [intOf] <;> omega
              · have HR2 : Hid (y = pickS lots true (l.take (i + 1))) := Lib.hid (HPY.out (by simp [hpp]))
                clear hpp
                go_wp2_with (first | (go_at_call 62; ((with_reducible refine (PX.out _ hbelq).mono ?_); rintro e w3 ⟨rfl, rfl⟩)) | (go_at_call 62; ((with_reducible refine (PB.out _ hbelq).mono ?_); rintro e w3 ⟨rfl, rfl⟩)))
                go_roundw
                case rel => exact ⟨i + 1, y, by omega, by omega, by go_num, rfl, hbq, HR2⟩
                case measure => simp [intOf] <;> omega
            · have hpz : ¬ (pb : Int) < (px : Int) := by omega
              have hpd : decide (pb < px) = false := by simp only [decide_eq_false_iff_not]; exact hpp
              cases least
              · have HR2 : Hid (y = pickS lots false (l.take (i + 1))) := Lib.hid (HPY.out (by simp [hpp]))
                clear hpp
                go_wp2_with (first | (go_at_call 62; ((with_reducible refine (PX.out _ hbelq).mono ?_); rintro e w3 ⟨rfl, rfl⟩)) | (go_at_call 62; ((with_reducible refine (PB.out _ hbelq).mono ?_); rintro e w3 ⟨rfl, rfl⟩)))
                go_roundw
                case rel => exact ⟨i + 1, y, by omega, by omega, by go_num, rfl, hbq, HR2⟩
                case measure => simp [intOf] <;> omega
              · have HR2 : Hid (b = pickS lots true (l.take (i + 1))) := Lib.hid (HPN.out (by simp [hpp]))
                clear hpp
                go_wp2_with (first | (go_at_call 62; ((with_reducible refine (PX.out _ hbelq).mono ?_); rintro e w3 ⟨rfl, rfl⟩)) | (go_at_call 62; ((with_reducible refine (PB.out _ hbelq).mono ?_); rintro e w3 ⟨rfl, rfl⟩)))
                go_roundw
                case rel => exact ⟨i + 1, b, by omega, by omega, by go_num, rfl, hbq, HR2⟩
                case measure => simp [intOf] <;> omega
          · have hiz : ¬ (i : Int) < (m : Int) := by omega
            have HX2 : Hid (ra = b) := Lib.hid (by rw [HX.out.1, hB.out, List.take_of_length_le (by rw [HM.out]; omega)])
            go_wp2_with fail
            go_ret2
            exact ⟨ret_ib HX2.out.symm HX.out.2.symm, hbelq⟩

set_option maxRecDepth 100000 in
set_option maxHeartbeats 8000000 in
theorem rbreak_2 {ve vt vl : Value} {L : List (List Q)} {tied lots : List Int} {w : World} (hL : RoundsAt w ve L) (ht : IntsAt w vt tied) (hl : IntsAt w vl lots) (least : Bool) (hv : validS 2 tied lots = true) :
    Calls Tryz.prog 38 #[.int .i64 2, ve, vt, vl, .bool least] w fun e w' => e = .returned (.tuple #[.int .i64 (breakS 2 L tied lots least).1, .bool (breakS 2 L tied lots least).2]) ∧ Below w.heap.size w w' := by
  obtain ⟨⟨_, _, _, hl7⟩, hbl, htne, hbt, htp⟩ := (valid_eq _ _ _).1 hv
  have htlen := nodup_len _ _ hbt.2 hbt.1
  have hLm : L.length ≤ 9223372036854775807 := SliceOf.len hL
  have HL := Lib.hid hL
  have HT := Lib.hid ht
  have HLO := Lib.hid hl
  have HSUB : Hid (∀ x ∈ tied, x ∈ lots) := Lib.hid (fun x hx => bal_mem hbl (hbt.1 x hx).1 (hbt.1 x hx).2)
  have HRG : Hid (∀ x ∈ tied, 0 ≤ x ∧ x < 1000) := Lib.hid (fun x hx => by have := hbt.1 x hx; omega)
  have HND := Lib.hid hbt.2
  have HTNE := Lib.hid htne
  have h7 : lots.length ≤ 1000 := by omega
  have h71 : tied.length ≤ 1000 := by omega
  have TV : Hid (∀ w', Below w.heap.size w w' → Calls Tryz.prog 60 #[.int .i64 2, vt, vl] w' fun e w'' => e = .returned (.bool true) ∧ Below w'.heap.size w' w'') := Lib.hid (fun w' hb => by
    have := rtie_c (ht.keep hb) (hl.keep hb) 2
    rw [hv] at this
    exact this)
  have HBR := Lib.hid (fun l' h => break_of (L := L) (l := l') (least := least) hv h)
  obtain ⟨ra, hra⟩ : ∃ x, (breakS 2 L tied lots least).1 = x := ⟨_, rfl⟩
  obtain ⟨rb, hrb⟩ : ∃ x, (breakS 2 L tied lots least).2 = x := ⟨_, rfl⟩
  rw [hra, hrb] at HBR
  rw [hra, hrb]
  clear hra hrb hv hbl htne hbt htp hl7
  obtain ⟨p2, c2, rfl⟩ := hL.shp
  obtain ⟨p3, c3, rfl⟩ := ht.shape
  obtain ⟨p4, c4, rfl⟩ := hl.shape
  have PL : Hid (∀ w', Below w.heap.size w w' → ∀ x, Calls Tryz.prog 62 #[.slice p4 lots.length c4, .int .i64 x] w' fun e w'' => e = .returned (.int .i64 (placeN lots x : Nat)) ∧ w' = w'') := Lib.hid (fun w' hb x => place_c (hl.keep hb) x)
  obtain ⟨R, hR⟩ : ∃ R, roundsS 2 L = R := ⟨_, rfl⟩
  have HRR : Hid (R.length = L.length ∧ R = L) := Lib.hid (by rw [← hR]; exact ⟨rfl, rfl⟩)
  rw [hR] at HBR
  obtain ⟨n, hn⟩ : ∃ n, L.length = n := ⟨_, rfl⟩
  obtain ⟨nt, hnt⟩ : ∃ n, tied.length = n := ⟨_, rfl⟩
  obtain ⟨nl, hnl⟩ : ∃ n, lots.length = n := ⟨_, rfl⟩
  have HN := Lib.hid hn
  have HNL : Hid (lots.length ≤ 1000) := Lib.hid h7
  have HNT : Hid (tied.length ≤ 1000) := Lib.hid h71
  rw [hn] at hLm HL
  rw [hn]
  rw [hnt] at HT TV
  rw [hnl] at HLO TV PL
  rw [hnt, hnl]
  clear hL ht hl hR hn hnt hnl h7 h71 htlen
  go_enter Tryz.func38, Tryz.ntmps38
  go_wp2_with (go_at_call 60; ((with_reducible refine (TV.out _ (Below.refl _ _)).mono ?_); rintro e w1 ⟨rfl, hb1⟩))
  go_loopw [12, 13] (fun lv iv wr => ∃ k : Nat, ∃ l : List Int, k ≤ n ∧ iv = .int .i64 k ∧ IntsAt wr lv l ∧ Below w.heap.size w wr ∧ Hid (l ≠ [] ∧ l.Sublist tied ∧ leftS least R tied = leftS least (R.drop k) l)) (fun _ iv _ => n - (intOf iv).toNat)
  case atStart => exact ⟨0, tied, by omega, rfl, HT.out.keep hb1, hb1, Lib.hid ⟨HTNE.out, List.Sublist.refl _, rfl⟩⟩
  case round =>
    obtain ⟨k, l, hk, rfl, hI, hbel, hP⟩ := hrel
    obtain ⟨p1, c1, rfl⟩ := hI.shape
    obtain ⟨m, hm⟩ : ∃ n, l.length = n := ⟨_, rfl⟩
    have HM := Lib.hid hm
    have HI := Lib.hid hI
    rw [hm] at HI
    have hmle : m ≤ 1000 := by rw [← hm]; exact Nat.le_trans hP.out.2.1.length_le HNT.out
    have hm0 : 0 < m := by rw [← hm]; exact List.length_pos_iff.2 hP.out.1
    have hm0z : (0 : Int) < (m : Int) := by omega
    rw [hm]
    clear hI hm
    by_cases hkn : k < n
    · have hkz : (k : Int) < (n : Int) := by omega
      by_cases hm1 : 1 < m
      · have hmz : (1 : Int) < (m : Int) := by omega
        obtain ⟨v, hv⟩ : ∃ v, L.getD k [] = v := ⟨_, rfl⟩
        obtain ⟨bb, off, u, hp0, hcc, hcm, hcell, hrow⟩ := (HL.out.keep hbel).cellAt (k := k) (by rw [HN.out]; omega) hv
        subst hp0
        have HRK : Hid (R.getD k [] = v) := Lib.hid (by rw [← hv]; rw [HRR.out.2])
        have HST := Lib.hid (lround_step (by rw [HRR.out.1, HN.out]; exact hkn) HRK.out hP.out.2.2 (by rw [HM.out]; exact hm1))
        have HNE : Hid (extA (ltV v least) l ≠ []) := Lib.hid (extA_ne' (ltV_swo hrow.shs least) hP.out.1)
        have HS2 : Hid ((extA (ltV v least) l).Sublist tied) := Lib.hid (extA_sub.trans hP.out.2.1)
        have EX := Lib.hid (extreme_c hrow HI.out (fun x hx => HRG.out x (hP.out.2.1.subset hx)) (by rw [HM.out]; omega) least)
        obtain ⟨pr, nr, cr, rfl⟩ := hrow.sl
        clear hv hrow
        go_wp2_with (go_at_call 61; ((with_reducible refine EX.out.mono ?_); rintro e w5 ⟨v5, rfl, hi5, hb5⟩; have hB5 := bel2' hbel hb5))
        go_roundw
        case rel => exact ⟨k + 1, _, by omega, by go_num, hi5, hB5, Lib.hid ⟨HNE.out, HS2.out, HST.out⟩⟩
        case measure => simp [intOf] <;> omega
      · have hmz : ¬ (1 : Int) < (m : Int) := by omega
        have HST := Lib.hid (lround_skip (least := least) (by rw [HRR.out.1, HN.out]; exact hkn) hP.out.2.2 (by rw [HM.out]; exact hm1))
        go_wp2_with fail
        go_roundw
        case rel => exact ⟨k + 1, _, by omega, by go_num, HI.out, hbel, Lib.hid ⟨hP.out.1, hP.out.2.1, HST.out⟩⟩
        case measure => simp [intOf] <;> omega
    · have hkz : ¬ (k : Int) < (n : Int) := by omega
      have HE : Hid (leftS least R tied = l) := Lib.hid (lround_end (.inl (by rw [HRR.out.1, HN.out]; exact hkn)) hP.out.2.2)
      have hBR := HBR.out l HE.out
      rw [HM.out] at hBR
      obtain ⟨bb, off, hp0, _, _, hcell⟩ := HI.out.cellAt 0 (by rw [HM.out]; omega)
      subst hp0
      have hcell : wr.cell? ⟨bb, off, none⟩ = some (.int .i64 (l.getD 0 0)) := hcell
      obtain ⟨x, hx⟩ : ∃ x, l.getD 0 0 = x := ⟨_, rfl⟩
      by_cases hm1 : m = 1
      · subst hm1
        have HX : Hid (ra = l.getD 0 0 ∧ rb = false) := Lib.hid (by rw [← head_getD HM.out]; exact hBR.1 rfl)
        rw [hx] at hcell HX
        clear hBR hx
        go_wp2_with fail
        go_ret2
        exact ⟨ret_ib HX.out.1.symm HX.out.2.symm, hbel⟩
      · have hmz : ((m : Int) == 1) = false := by rw [beq_eq_false_iff_ne]; omega
        have HX : Hid (ra = pickS lots least l ∧ rb = true) := Lib.hid (hBR.2 hm1)
        have H0 : Hid (x = pickS lots least (l.take 1)) := Lib.hid (by rw [← hx]; exact pick_one hP.out.1)
        rw [hx] at hcell
        clear hBR hx
        obtain ⟨wo, rfl⟩ : ∃ x, x = wr := ⟨_, rfl⟩
        go_wp2_with fail
        go_loopw [15, 16] (fun bv iv wq => ∃ i : Nat, ∃ b : Int, 1 ≤ i ∧ i ≤ m ∧ iv = .int .i64 i ∧ bv = .int .i64 b ∧ Below wo.heap.size wo wq ∧ Hid (b = pickS lots least (l.take i))) (fun _ iv _ => m - (intOf iv).toNat)
        case atStart => exact ⟨1, x, by omega, by omega, rfl, rfl, Below.refl _ _, H0⟩
        case round =>
          obtain ⟨i, b, hi1, him, rfl, rfl, hbq, hB⟩ := hrel
          have hbelq := bel2' hbel hbq
          by_cases hil : i < m
          · have hiz : (i : Int) < (m : Int) := by omega
            obtain ⟨bb2, off2, hp2, _, _, hcelli⟩ := (HI.out.keep hbq).cellAt i (by rw [HM.out]; exact hil)
            simp only [Option.some.injEq, Addr.mk.injEq, and_true] at hp2
            obtain ⟨rfl, rfl⟩ := hp2
            obtain ⟨y, hy⟩ : ∃ y, l.getD i 0 = y := ⟨_, rfl⟩
            have HS := Lib.hid (pick_take (lots := lots) (least := least) (l := l) (k := i) (by omega) (by rw [HM.out]; exact hil) hy)
            rw [hy] at hcelli
            rw [← hB.out] at HS
            have HPY := Lib.hid (@pick_yes lots least b y _ · HS.out)
            have HPN := Lib.hid (@pick_no lots least b y _ · HS.out)
            obtain ⟨px, hpx⟩ : ∃ x, placeN lots y = x := ⟨_, rfl⟩
            obtain ⟨pb, hpb⟩ : ∃ x, placeN lots b = x := ⟨_, rfl⟩
            rw [hpx, hpb] at HPY HPN
            have PX : Hid (∀ w', Below w.heap.size w w' → Calls Tryz.prog 62 #[.slice p4 nl c4, .int .i64 y] w' fun e w'' => e = .returned (.int .i64 px) ∧ w' = w'') := Lib.hid (fun w' hb => by rw [← hpx]; exact PL.out w' hb y)
            have PB : Hid (∀ w', Below w.heap.size w w' → Calls Tryz.prog 62 #[.slice p4 nl c4, .int .i64 b] w' fun e w'' => e = .returned (.int .i64 pb) ∧ w' = w'') := Lib.hid (fun w' hb => by rw [← hpb]; exact PL.out w' hb b)
            clear hy hpx hpb
            by_cases hpp : pb < px
            · have hpz : (pb : Int) < (px : Int) := by omega
              cases least
              · have HR2 : Hid (b = pickS lots false (l.take (i + 1))) := Lib.hid (HPN.out (by simp [hpp]))
                clear hpp
                go_wp2_with (first | (go_at_call 62; ((with_reducible refine (PX.out _ hbelq).mono ?_); rintro e w3 ⟨rfl, rfl⟩)) | (go_at_call 62; ((with_reducible refine (PB.out _ hbelq).mono ?_); rintro e w3 ⟨rfl, rfl⟩)))
                go_roundw
                case rel => exact ⟨i + 1, b, by omega, by omega, by go_num, rfl, hbq, HR2⟩
                case measure => simp [intOf] <;> omega
              · have HR2 : Hid (y = pickS lots true (l.take (i + 1))) := Lib.hid (HPY.out (by simp [hpp]))
                clear hpp
                go_wp2_with (first | (go_at_call 62; ((with_reducible refine (PX.out _ hbelq).mono ?_); rintro e w3 ⟨rfl, rfl⟩)) | (go_at_call 62; ((with_reducible refine (PB.out _ hbelq).mono ?_); rintro e w3 ⟨rfl, rfl⟩)))
                go_roundw
                case rel => exact ⟨i + 1, y, by omega, by omega, by go_num, rfl, hbq, HR2⟩
                case measure => simp [intOf] <;> omega
            · have hpz : ¬ (pb : Int) < (px : Int) := by omega
              have hpd : decide (pb < px) = false := by simp only [decide_eq_false_iff_not]; exact hpp
              cases least
              · have HR2 : Hid (y = pickS lots false (l.take (i + 1))) := Lib.hid (HPY.out (by simp [hpp]))
                clear hpp
                go_wp2_with (first | (go_at_call 62; ((with_reducible refine (PX.out _ hbelq).mono ?_); rintro e w3 ⟨rfl, rfl⟩)) | (go_at_call 62; ((with_reducible refine (PB.out _ hbelq).mono ?_); rintro e w3 ⟨rfl, rfl⟩)))
                go_roundw
                case rel => exact ⟨i + 1, y, by omega, by omega, by go_num, rfl, hbq, HR2⟩
                case measure => simp [intOf] <;> omega
              · have HR2 : Hid (b = pickS lots true (l.take (i + 1))) := Lib.hid (HPN.out (by simp [hpp]))
                clear hpp
                go_wp2_with (first | (go_at_call 62; ((with_reducible refine (PX.out _ hbelq).mono ?_); rintro e w3 ⟨rfl, rfl⟩)) | (go_at_call 62; ((with_reducible refine (PB.out _ hbelq).mono ?_); rintro e w3 ⟨rfl, rfl⟩)))
                go_roundw
                case rel => exact ⟨i + 1, b, by omega, by omega, by go_num, rfl, hbq, HR2⟩
                case measure => simp [intOf] <;> omega
          · have hiz : ¬ (i : Int) < (m : Int) := by omega
            have HX2 : Hid (ra = b) := Lib.hid (by rw [HX.out.1, hB.out, List.take_of_length_le (by rw [HM.out]; omega)])
            go_wp2_with fail
            go_ret2
            exact ⟨ret_ib HX2.out.symm HX.out.2.symm, hbelq⟩

set_option maxRecDepth 100000 in
set_option maxHeartbeats 8000000 in
theorem rbreak_3 {ve vt vl : Value} {L : List (List Q)} {tied lots : List Int} {w : World} (hL : RoundsAt w ve L) (ht : IntsAt w vt tied) (hl : IntsAt w vl lots) (least : Bool) (hv : validS 3 tied lots = true) :
    Calls Tryz.prog 38 #[.int .i64 3, ve, vt, vl, .bool least] w fun e w' => e = .returned (.tuple #[.int .i64 (breakS 3 L tied lots least).1, .bool (breakS 3 L tied lots least).2]) ∧ Below w.heap.size w w' := by
  obtain ⟨⟨_, _, _, hl7⟩, hbl, htne, hbt, htp⟩ := (valid_eq _ _ _).1 hv
  have htlen := nodup_len _ _ hbt.2 hbt.1
  have hLm : L.length ≤ 9223372036854775807 := SliceOf.len hL
  have HL := Lib.hid hL
  have HT := Lib.hid ht
  have HLO := Lib.hid hl
  have HSUB : Hid (∀ x ∈ tied, x ∈ lots) := Lib.hid (fun x hx => bal_mem hbl (hbt.1 x hx).1 (hbt.1 x hx).2)
  have HRG : Hid (∀ x ∈ tied, 0 ≤ x ∧ x < 1000) := Lib.hid (fun x hx => by have := hbt.1 x hx; omega)
  have HND := Lib.hid hbt.2
  have HTNE := Lib.hid htne
  have h7 : lots.length ≤ 1000 := by omega
  have h71 : tied.length ≤ 1000 := by omega
  have TV : Hid (∀ w', Below w.heap.size w w' → Calls Tryz.prog 60 #[.int .i64 3, vt, vl] w' fun e w'' => e = .returned (.bool true) ∧ Below w'.heap.size w' w'') := Lib.hid (fun w' hb => by
    have := rtie_c (ht.keep hb) (hl.keep hb) 3
    rw [hv] at this
    exact this)
  have HBR := Lib.hid (fun l' h => break_of (L := L) (l := l') (least := least) hv h)
  obtain ⟨ra, hra⟩ : ∃ x, (breakS 3 L tied lots least).1 = x := ⟨_, rfl⟩
  obtain ⟨rb, hrb⟩ : ∃ x, (breakS 3 L tied lots least).2 = x := ⟨_, rfl⟩
  rw [hra, hrb] at HBR
  rw [hra, hrb]
  clear hra hrb hv hbl htne hbt htp hl7
  obtain ⟨p2, c2, rfl⟩ := hL.shp
  obtain ⟨p3, c3, rfl⟩ := ht.shape
  obtain ⟨p4, c4, rfl⟩ := hl.shape
  have PL : Hid (∀ w', Below w.heap.size w w' → ∀ x, Calls Tryz.prog 62 #[.slice p4 lots.length c4, .int .i64 x] w' fun e w'' => e = .returned (.int .i64 (placeN lots x : Nat)) ∧ w' = w'') := Lib.hid (fun w' hb x => place_c (hl.keep hb) x)
  obtain ⟨R, hR⟩ : ∃ R, roundsS 3 L = R := ⟨_, rfl⟩
  have HRR : Hid (R = [] ∧ True) := Lib.hid (by rw [← hR]; exact ⟨rfl, trivial⟩)
  rw [hR] at HBR
  obtain ⟨n, hn⟩ : ∃ n, L.length = n := ⟨_, rfl⟩
  obtain ⟨nt, hnt⟩ : ∃ n, tied.length = n := ⟨_, rfl⟩
  obtain ⟨nl, hnl⟩ : ∃ n, lots.length = n := ⟨_, rfl⟩
  have HN := Lib.hid hn
  have HNL : Hid (lots.length ≤ 1000) := Lib.hid h7
  have HNT : Hid (tied.length ≤ 1000) := Lib.hid h71
  rw [hn] at hLm HL
  rw [hn]
  rw [hnt] at HT TV
  rw [hnl] at HLO TV PL
  rw [hnt, hnl]
  clear hL ht hl hR hn hnt hnl h7 h71 htlen
  go_enter Tryz.func38, Tryz.ntmps38
  go_wp2_with (go_at_call 60; ((with_reducible refine (TV.out _ (Below.refl _ _)).mono ?_); rintro e w1 ⟨rfl, hb1⟩))
  go_loopw [12, 13] (fun lv iv wr => ∃ k : Nat, ∃ l : List Int, k ≤ n ∧ iv = .int .i64 k ∧ IntsAt wr lv l ∧ Below w.heap.size w wr ∧ Hid (l ≠ [] ∧ l.Sublist tied ∧ leftS least R tied = leftS least (R.drop k) l)) (fun _ iv _ => n - (intOf iv).toNat)
  case atStart => exact ⟨0, tied, by omega, rfl, HT.out.keep hb1, hb1, Lib.hid ⟨HTNE.out, List.Sublist.refl _, rfl⟩⟩
  case round =>
    obtain ⟨k, l, hk, rfl, hI, hbel, hP⟩ := hrel
    obtain ⟨p1, c1, rfl⟩ := hI.shape
    obtain ⟨m, hm⟩ : ∃ n, l.length = n := ⟨_, rfl⟩
    have HM := Lib.hid hm
    have HI := Lib.hid hI
    rw [hm] at HI
    have hmle : m ≤ 1000 := by rw [← hm]; exact Nat.le_trans hP.out.2.1.length_le HNT.out
    have hm0 : 0 < m := by rw [← hm]; exact List.length_pos_iff.2 hP.out.1
    have hm0z : (0 : Int) < (m : Int) := by omega
    rw [hm]
    clear hI hm
    by_cases hkn : k < n
    · have hkz : (k : Int) < (n : Int) := by omega
      have HE : Hid (leftS least R tied = l) := Lib.hid (lround_end (.inl (by rw [HRR.out.1]; simp)) hP.out.2.2)
      have hBR := HBR.out l HE.out
      rw [HM.out] at hBR
      obtain ⟨bb, off, hp0, _, _, hcell⟩ := HI.out.cellAt 0 (by rw [HM.out]; omega)
      subst hp0
      have hcell : wr.cell? ⟨bb, off, none⟩ = some (.int .i64 (l.getD 0 0)) := hcell
      obtain ⟨x, hx⟩ : ∃ x, l.getD 0 0 = x := ⟨_, rfl⟩
      by_cases hm1 : m = 1
      · subst hm1
        have HX : Hid (ra = l.getD 0 0 ∧ rb = false) := Lib.hid (by rw [← head_getD HM.out]; exact hBR.1 rfl)
        rw [hx] at hcell HX
        clear hBR hx
        go_wp2_with fail
        go_ret2
        exact ⟨ret_ib HX.out.1.symm HX.out.2.symm, hbel⟩
      · have hmz : ((m : Int) == 1) = false := by rw [beq_eq_false_iff_ne]; omega
        have HX : Hid (ra = pickS lots least l ∧ rb = true) := Lib.hid (hBR.2 hm1)
        have H0 : Hid (x = pickS lots least (l.take 1)) := Lib.hid (by rw [← hx]; exact pick_one hP.out.1)
        rw [hx] at hcell
        clear hBR hx
        obtain ⟨wo, rfl⟩ : ∃ x, x = wr := ⟨_, rfl⟩
        go_wp2_with fail
        go_loopw [15, 16] (fun bv iv wq => ∃ i : Nat, ∃ b : Int, 1 ≤ i ∧ i ≤ m ∧ iv = .int .i64 i ∧ bv = .int .i64 b ∧ Below wo.heap.size wo wq ∧ Hid (b = pickS lots least (l.take i))) (fun _ iv _ => m - (intOf iv).toNat)
        case atStart => exact ⟨1, x, by omega, by omega, rfl, rfl, Below.refl _ _, H0⟩
        case round =>
          obtain ⟨i, b, hi1, him, rfl, rfl, hbq, hB⟩ := hrel
          have hbelq := bel2' hbel hbq
          by_cases hil : i < m
          · have hiz : (i : Int) < (m : Int) := by omega
            obtain ⟨bb2, off2, hp2, _, _, hcelli⟩ := (HI.out.keep hbq).cellAt i (by rw [HM.out]; exact hil)
            simp only [Option.some.injEq, Addr.mk.injEq, and_true] at hp2
            obtain ⟨rfl, rfl⟩ := hp2
            obtain ⟨y, hy⟩ : ∃ y, l.getD i 0 = y := ⟨_, rfl⟩
            have HS := Lib.hid (pick_take (lots := lots) (least := least) (l := l) (k := i) (by omega) (by rw [HM.out]; exact hil) hy)
            rw [hy] at hcelli
            rw [← hB.out] at HS
            have HPY := Lib.hid (@pick_yes lots least b y _ · HS.out)
            have HPN := Lib.hid (@pick_no lots least b y _ · HS.out)
            obtain ⟨px, hpx⟩ : ∃ x, placeN lots y = x := ⟨_, rfl⟩
            obtain ⟨pb, hpb⟩ : ∃ x, placeN lots b = x := ⟨_, rfl⟩
            rw [hpx, hpb] at HPY HPN
            have PX : Hid (∀ w', Below w.heap.size w w' → Calls Tryz.prog 62 #[.slice p4 nl c4, .int .i64 y] w' fun e w'' => e = .returned (.int .i64 px) ∧ w' = w'') := Lib.hid (fun w' hb => by rw [← hpx]; exact PL.out w' hb y)
            have PB : Hid (∀ w', Below w.heap.size w w' → Calls Tryz.prog 62 #[.slice p4 nl c4, .int .i64 b] w' fun e w'' => e = .returned (.int .i64 pb) ∧ w' = w'') := Lib.hid (fun w' hb => by rw [← hpb]; exact PL.out w' hb b)
            clear hy hpx hpb
            by_cases hpp : pb < px
            · have hpz : (pb : Int) < (px : Int) := by omega
              cases least
              · have HR2 : Hid (b = pickS lots false (l.take (i + 1))) := Lib.hid (HPN.out (by simp [hpp]))
                clear hpp
                go_wp2_with (first | (go_at_call 62; ((with_reducible refine (PX.out _ hbelq).mono ?_); rintro e w3 ⟨rfl, rfl⟩)) | (go_at_call 62; ((with_reducible refine (PB.out _ hbelq).mono ?_); rintro e w3 ⟨rfl, rfl⟩)))
                go_roundw
                case rel => exact ⟨i + 1, b, by omega, by omega, by go_num, rfl, hbq, HR2⟩
                case measure => simp [intOf] <;> omega
              · have HR2 : Hid (y = pickS lots true (l.take (i + 1))) := Lib.hid (HPY.out (by simp [hpp]))
                clear hpp
                go_wp2_with (first | (go_at_call 62; ((with_reducible refine (PX.out _ hbelq).mono ?_); rintro e w3 ⟨rfl, rfl⟩)) | (go_at_call 62; ((with_reducible refine (PB.out _ hbelq).mono ?_); rintro e w3 ⟨rfl, rfl⟩)))
                go_roundw
                case rel => exact ⟨i + 1, y, by omega, by omega, by go_num, rfl, hbq, HR2⟩
                case measure => simp [intOf] <;> omega
            · have hpz : ¬ (pb : Int) < (px : Int) := by omega
              have hpd : decide (pb < px) = false := by simp only [decide_eq_false_iff_not]; exact hpp
              cases least
              · have HR2 : Hid (y = pickS lots false (l.take (i + 1))) := Lib.hid (HPY.out (by simp [hpp]))
                clear hpp
                go_wp2_with (first | (go_at_call 62; ((with_reducible refine (PX.out _ hbelq).mono ?_); rintro e w3 ⟨rfl, rfl⟩)) | (go_at_call 62; ((with_reducible refine (PB.out _ hbelq).mono ?_); rintro e w3 ⟨rfl, rfl⟩)))
                go_roundw
                case rel => exact ⟨i + 1, y, by omega, by omega, by go_num, rfl, hbq, HR2⟩
                case measure => simp [intOf] <;> omega
              · have HR2 : Hid (b = pickS lots true (l.take (i + 1))) := Lib.hid (HPN.out (by simp [hpp]))
                clear hpp
                go_wp2_with (first | (go_at_call 62; ((with_reducible refine (PX.out _ hbelq).mono ?_); rintro e w3 ⟨rfl, rfl⟩)) | (go_at_call 62; ((with_reducible refine (PB.out _ hbelq).mono ?_); rintro e w3 ⟨rfl, rfl⟩)))
                go_roundw
                case rel => exact ⟨i + 1, b, by omega, by omega, by go_num, rfl, hbq, HR2⟩
                case measure => simp [intOf] <;> omega
          · have hiz : ¬ (i : Int) < (m : Int) := by omega
            have HX2 : Hid (ra = b) := Lib.hid (by rw [HX.out.1, hB.out, List.take_of_length_le (by rw [HM.out]; omega)])
            go_wp2_with fail
            go_ret2
            exact ⟨ret_ib HX2.out.symm HX.out.2.symm, hbelq⟩
    · have hkz : ¬ (k : Int) < (n : Int) := by omega
      have HE : Hid (leftS least R tied = l) := Lib.hid (lround_end (.inl (by rw [HRR.out.1]; simp)) hP.out.2.2)
      have hBR := HBR.out l HE.out
      rw [HM.out] at hBR
      obtain ⟨bb, off, hp0, _, _, hcell⟩ := HI.out.cellAt 0 (by rw [HM.out]; omega)
      subst hp0
      have hcell : wr.cell? ⟨bb, off, none⟩ = some (.int .i64 (l.getD 0 0)) := hcell
      obtain ⟨x, hx⟩ : ∃ x, l.getD 0 0 = x := ⟨_, rfl⟩
      by_cases hm1 : m = 1
      · subst hm1
        have HX : Hid (ra = l.getD 0 0 ∧ rb = false) := Lib.hid (by rw [← head_getD HM.out]; exact hBR.1 rfl)
        rw [hx] at hcell HX
        clear hBR hx
        go_wp2_with fail
        go_ret2
        exact ⟨ret_ib HX.out.1.symm HX.out.2.symm, hbel⟩
      · have hmz : ((m : Int) == 1) = false := by rw [beq_eq_false_iff_ne]; omega
        have HX : Hid (ra = pickS lots least l ∧ rb = true) := Lib.hid (hBR.2 hm1)
        have H0 : Hid (x = pickS lots least (l.take 1)) := Lib.hid (by rw [← hx]; exact pick_one hP.out.1)
        rw [hx] at hcell
        clear hBR hx
        obtain ⟨wo, rfl⟩ : ∃ x, x = wr := ⟨_, rfl⟩
        go_wp2_with fail
        go_loopw [15, 16] (fun bv iv wq => ∃ i : Nat, ∃ b : Int, 1 ≤ i ∧ i ≤ m ∧ iv = .int .i64 i ∧ bv = .int .i64 b ∧ Below wo.heap.size wo wq ∧ Hid (b = pickS lots least (l.take i))) (fun _ iv _ => m - (intOf iv).toNat)
        case atStart => exact ⟨1, x, by omega, by omega, rfl, rfl, Below.refl _ _, H0⟩
        case round =>
          obtain ⟨i, b, hi1, him, rfl, rfl, hbq, hB⟩ := hrel
          have hbelq := bel2' hbel hbq
          by_cases hil : i < m
          · have hiz : (i : Int) < (m : Int) := by omega
            obtain ⟨bb2, off2, hp2, _, _, hcelli⟩ := (HI.out.keep hbq).cellAt i (by rw [HM.out]; exact hil)
            simp only [Option.some.injEq, Addr.mk.injEq, and_true] at hp2
            obtain ⟨rfl, rfl⟩ := hp2
            obtain ⟨y, hy⟩ : ∃ y, l.getD i 0 = y := ⟨_, rfl⟩
            have HS := Lib.hid (pick_take (lots := lots) (least := least) (l := l) (k := i) (by omega) (by rw [HM.out]; exact hil) hy)
            rw [hy] at hcelli
            rw [← hB.out] at HS
            have HPY := Lib.hid (@pick_yes lots least b y _ · HS.out)
            have HPN := Lib.hid (@pick_no lots least b y _ · HS.out)
            obtain ⟨px, hpx⟩ : ∃ x, placeN lots y = x := ⟨_, rfl⟩
            obtain ⟨pb, hpb⟩ : ∃ x, placeN lots b = x := ⟨_, rfl⟩
            rw [hpx, hpb] at HPY HPN
            have PX : Hid (∀ w', Below w.heap.size w w' → Calls Tryz.prog 62 #[.slice p4 nl c4, .int .i64 y] w' fun e w'' => e = .returned (.int .i64 px) ∧ w' = w'') := Lib.hid (fun w' hb => by rw [← hpx]; exact PL.out w' hb y)
            have PB : Hid (∀ w', Below w.heap.size w w' → Calls Tryz.prog 62 #[.slice p4 nl c4, .int .i64 b] w' fun e w'' => e = .returned (.int .i64 pb) ∧ w' = w'') := Lib.hid (fun w' hb => by rw [← hpb]; exact PL.out w' hb b)
            clear hy hpx hpb
            by_cases hpp : pb < px
            · have hpz : (pb : Int) < (px : Int) := by omega
              cases least
              · have HR2 : Hid (b = pickS lots false (l.take (i + 1))) := Lib.hid (HPN.out (by simp [hpp]))
                clear hpp
                go_wp2_with (first | (go_at_call 62; ((with_reducible refine (PX.out _ hbelq).mono ?_); rintro e w3 ⟨rfl, rfl⟩)) | (go_at_call 62; ((with_reducible refine (PB.out _ hbelq).mono ?_); rintro e w3 ⟨rfl, rfl⟩)))
                go_roundw
                case rel => exact ⟨i + 1, b, by omega, by omega, by go_num, rfl, hbq, HR2⟩
                case measure => simp [intOf] <;> omega
              · have HR2 : Hid (y = pickS lots true (l.take (i + 1))) := Lib.hid (HPY.out (by simp [hpp]))
                clear hpp
                go_wp2_with (first | (go_at_call 62; ((with_reducible refine (PX.out _ hbelq).mono ?_); rintro e w3 ⟨rfl, rfl⟩)) | (go_at_call 62; ((with_reducible refine (PB.out _ hbelq).mono ?_); rintro e w3 ⟨rfl, rfl⟩)))
                go_roundw
                case rel => exact ⟨i + 1, y, by omega, by omega, by go_num, rfl, hbq, HR2⟩
                case measure => simp [intOf] <;> omega
            · have hpz : ¬ (pb : Int) < (px : Int) := by omega
              have hpd : decide (pb < px) = false := by simp only [decide_eq_false_iff_not]; exact hpp
              cases least
              · have HR2 : Hid (y = pickS lots false (l.take (i + 1))) := Lib.hid (HPY.out (by simp [hpp]))
                clear hpp
                go_wp2_with (first | (go_at_call 62; ((with_reducible refine (PX.out _ hbelq).mono ?_); rintro e w3 ⟨rfl, rfl⟩)) | (go_at_call 62; ((with_reducible refine (PB.out _ hbelq).mono ?_); rintro e w3 ⟨rfl, rfl⟩)))
                go_roundw
                case rel => exact ⟨i + 1, y, by omega, by omega, by go_num, rfl, hbq, HR2⟩
                case measure => simp [intOf] <;> omega
              · have HR2 : Hid (b = pickS lots true (l.take (i + 1))) := Lib.hid (HPN.out (by simp [hpp]))
                clear hpp
                go_wp2_with (first | (go_at_call 62; ((with_reducible refine (PX.out _ hbelq).mono ?_); rintro e w3 ⟨rfl, rfl⟩)) | (go_at_call 62; ((with_reducible refine (PB.out _ hbelq).mono ?_); rintro e w3 ⟨rfl, rfl⟩)))
                go_roundw
                case rel => exact ⟨i + 1, b, by omega, by omega, by go_num, rfl, hbq, HR2⟩
                case measure => simp [intOf] <;> omega
          · have hiz : ¬ (i : Int) < (m : Int) := by omega
            have HX2 : Hid (ra = b) := Lib.hid (by rw [HX.out.1, hB.out, List.take_of_length_le (by rw [HM.out]; omega)])
            go_wp2_with fail
            go_ret2
            exact ⟨ret_ib HX2.out.symm HX.out.2.symm, hbelq⟩

set_option maxHeartbeats 2000000 in
theorem rbreak_c {ve vt vl : Value} {L : List (List Q)} {tied lots : List Int} {w : World} (hL : RoundsAt w ve L) (ht : IntsAt w vt tied) (hl : IntsAt w vl lots) (rule : Int) (least : Bool) :
    Calls Tryz.prog 38 #[.int .i64 rule, ve, vt, vl, .bool least] w fun e w' => e = .returned (.tuple #[.int .i64 (breakS rule L tied lots least).1, .bool (breakS rule L tied lots least).2]) ∧ Below w.heap.size w w' := by
  cases hv : validS rule tied lots
  · have TV : Hid (∀ w', Below w.heap.size w w' → Calls Tryz.prog 60 #[.int .i64 rule, vt, vl] w' fun e w'' => e = .returned (.bool false) ∧ Below w'.heap.size w' w'') := Lib.hid (fun w' hb => by
      have := rtie_c (ht.keep hb) (hl.keep hb) rule
      rw [hv] at this
      exact this)
    rw [break_no hv]
    obtain ⟨p2, c2, rfl⟩ := hL.shp
    obtain ⟨p3, c3, rfl⟩ := ht.shape
    obtain ⟨p4, c4, rfl⟩ := hl.shape
    obtain ⟨n, hn⟩ : ∃ n, L.length = n := ⟨_, rfl⟩
    obtain ⟨nt, hnt⟩ : ∃ n, tied.length = n := ⟨_, rfl⟩
    obtain ⟨nl, hnl⟩ : ∃ n, lots.length = n := ⟨_, rfl⟩
    rw [hnt, hnl] at TV
    rw [hn, hnt, hnl]
    clear hL ht hl hn hnt hnl hv
    go_enter Tryz.func38, Tryz.ntmps38
    go_wp2_with (go_at_call 60; ((with_reducible refine (TV.out _ (Below.refl _ _)).mono ?_); rintro e w1 ⟨rfl, hb1⟩))
    go_ret2
    exact ⟨rfl, hb1⟩
  · have h := (valid_eq _ _ _).1 hv
    rcases (by omega : rule = 1 ∨ rule = 2 ∨ rule = 3) with rfl | rfl | rfl
    · exact rbreak_1 hL ht hl least hv
    · exact rbreak_2 hL ht hl least hv
    · exact rbreak_3 hL ht hl least hv

end Go.Proofs.YtbnhgmikegdppaaGreat

/- Awake. -/
namespace Go.Proofs.YtbnhgmikegdppaaGreat
open Go.RowKit Go.Proofs.Kit Go.Proofs.Nums

theorem ints_lit (w : World) (l : List Int) (h : l.length ≤ 1000) : IntsAt (w.alloc (.cells (l.map (Value.int .i64)).toArray 3)) (.slice (some ⟨w.heap.size, 0, none⟩) l.length l.length) l := by
  have := World.ownsRow_lit (base := w.heap.size) (e := 3) (size := 1) w (l.map (Value.int .i64)).toArray l.length (Nat.le_refl _) (by unfold maxLen; omega) (by simp)
  exact RowAt.owned (by simpa using this)
theorem rounds_two {w : World} {v1 v2 : Value} {q1 q2 : List Q} (h1 : RatsAt w v1 q1) (h2 : RatsAt w v2 q2) (e : TypeId) : RoundsAt (w.alloc (.cells #[v1, v2] e)) (.slice (some ⟨w.heap.size, 0, none⟩) 2 2) [q1, q2] := by
  have hb : Below w.heap.size w (w.alloc (.cells #[v1, v2] e)) := (Below.refl _ _).alloc (Nat.le_refl _) _
  have g1 := h1.keep hb
  have g2 := h2.keep hb
  have hsz : ∀ c ∈ [[v1], [v2]], c.length = 1 := by
    intro c hc
    rcases List.mem_cons.1 hc with rfl | hc
    · rfl
    · rw [List.mem_singleton.1 hc]; rfl
  refine ⟨[[v1], [v2]], _, 2, rfl, Nat.le_refl _, by omega, (fun h => by cases h), rfl, hsz, (fun q hq i c j u hi hj => ?_), (fun i c x hi hx => ?_)⟩
  · obtain rfl := Option.some.inj hq
    exact alloc_cell w #[v1, v2] e _ _ u (flat_at hsz hi hj)
  · match i, hi, hx with
    | 0, hi, hx => simp only [List.getElem?_cons_zero, Option.some.injEq] at hi hx; subst hi; subst hx; exact ⟨_, rfl, g1⟩
    | 1, hi, hx => simp only [List.getElem?_cons_succ, List.getElem?_cons_zero, Option.some.injEq] at hi hx; subst hi; subst hx; exact ⟨_, rfl, g2⟩
    | _ + 2, hi, hx => simp at hi

theorem wh_lit (a b c : Int) (h1 : 0 ≤ a ∧ a ≤ 1000) (h2 : 0 ≤ b ∧ b ≤ 1000) (h3 : 0 ≤ c ∧ c ≤ 1000) (w : World) :
    Calls Tryz.prog 35 #[.slice (some ⟨w.heap.size, 0, none⟩) 3 3] (w.alloc (.cells #[.int .i64 a, .int .i64 b, .int .i64 c] 3)) fun e w' => ∃ v', e = .returned v' ∧ RatsAt w' v' (wholesS [a, b, c]) ∧ Below w.heap.size w w' := by
  have h := ints_lit w [a, b, c] (by simp)
  refine (wholes_c h (fun x hx => ?_) (by simp)).mono ?_
  · simp only [List.mem_cons, List.not_mem_nil, or_false] at hx
    omega
  · rintro e w' ⟨v', rfl, ⟨css, g⟩, hb⟩
    exact ⟨v', rfl, g.slice, below_new (hb.mono (by simp))⟩

end Go.Proofs.YtbnhgmikegdppaaGreat

/- The walk of TieTells. -/
namespace Go.Proofs.YtbnhgmikegdppaaGreat
open Go.RowKit Go.Proofs.Kit Go.Proofs.Nums
theorem mod_one (x : Int) (m : Nat) (h : 1 ≤ m) : ∃ k : Nat, 1 + x % (m : Int) = (k : Int) ∧ 1 ≤ k ∧ k ≤ m := by
  have h1 := Int.emod_nonneg x (b := (m : Int)) (by omega)
  have h2 := Int.emod_lt_of_pos x (b := (m : Int)) (by omega)
  exact ⟨(1 + x % (m : Int)).toNat, by omega, by omega, by omega⟩

/-- Both break a tie alike. -/
theorem both {vt vl : Value} {tied lots : List Int} {w : World} (ht : IntsAt w vt tied) (hl : IntsAt w vl lots) (rule : Int) (least : Bool) (M : List (List Q)) :
    ∃ x y, (∀ w' vM, Below w.heap.size w w' → RoundsAt w' vM M → Calls Tryz.prog 53 #[.int .i64 rule, vM, vt, vl, .bool least] w' fun e w'' => e = .returned (.tuple #[.int .i64 x, .bool y]) ∧ Below w'.heap.size w' w'') ∧
      (∀ w' vM, Below w.heap.size w w' → RoundsAt w' vM M → Calls Tryz.prog 38 #[.int .i64 rule, vM, vt, vl, .bool least] w' fun e w'' => e = .returned (.tuple #[.int .i64 x, .bool y]) ∧ Below w'.heap.size w' w'') :=
  ⟨_, _, fun _ _ hb hM => tbreak_c hM (ht.keep hb) (hl.keep hb) rule least, fun _ _ hb hM => rbreak_c hM (ht.keep hb) (hl.keep hb) rule least⟩
theorem bothV {vt vl : Value} {tied lots : List Int} {w : World} (ht : IntsAt w vt tied) (hl : IntsAt w vl lots) (rule : Int) :
    ∃ b, (∀ w', Below w.heap.size w w' → Calls Tryz.prog 71 #[.int .i64 rule, vt, vl] w' fun e w'' => e = .returned (.bool b) ∧ Below w'.heap.size w' w'') ∧
      (∀ w', Below w.heap.size w w' → Calls Tryz.prog 60 #[.int .i64 rule, vt, vl] w' fun e w'' => e = .returned (.bool b) ∧ Below w'.heap.size w' w'') :=
  ⟨_, fun _ hb => tvalid_c (ht.keep hb) (hl.keep hb) rule, fun _ hb => rtie_c (ht.keep hb) (hl.keep hb) rule⟩

end Go.Proofs.YtbnhgmikegdppaaGreat

/- The plain laws of ties. -/
namespace Go.Proofs.Nums

theorem perm_len (n : Nat) (code : Int) : (permS n code).length = n := by
  rw [(permS_perm n code).length_eq]; simp
theorem perm_mem {n : Nat} {code x : Int} : x ∈ permS n code ↔ 0 ≤ x ∧ x < n := by
  rw [(permS_perm n code).mem_iff, List.mem_map]
  constructor
  · rintro ⟨i, hi, rfl⟩
    have := List.mem_range.1 hi
    omega
  · rintro ⟨h0, h1⟩
    exact ⟨x.toNat, List.mem_range.2 (by omega), by omega⟩
theorem perm_nodup (n : Nat) (code : Int) : (permS n code).Nodup := by
  rw [(permS_perm n code).nodup_iff]
  exact List.Pairwise.map (R := fun a b => a ≠ b) _ (fun a b h => by omega) List.nodup_range
theorem perm_bal (n : Nat) (code : Int) : BalP n (permS n code) := ⟨fun _ h => perm_mem.1 h, perm_nodup n code⟩
theorem tied_bal {n : Nat} (h1 : 1 ≤ n) (l : List Int) : BalP n (tiedS n l) ∧ tiedS n l ≠ [] ∨ 12 < n := by
  by_cases h2 : 12 < n
  · exact .inr h2
  left
  obtain ⟨g1, g2, g3⟩ := ballot_ok (n := (n : Int)) (by omega) (((n : Int) - 1) :: l.take 7)
  refine ⟨⟨fun c hc => ?_, ?_⟩, fun e => ?_⟩
  · have := mem_rising.1 hc
    exact g2 c this.2.2
  · exact (rising_sorted _).imp fun h => by omega
  · have hne := g3 (by simp)
    obtain ⟨c, t, ec⟩ := List.exists_cons_of_ne_nil hne
    have hm : c ∈ ballotS n (((n : Int) - 1) :: l.take 7) := by rw [ec]; simp
    have hb := g2 c hm
    have : c ∈ tiedS n l := mem_rising.2 ⟨hb.1, by omega, hm⟩
    rw [e] at this
    simp at this
/-- What a law makes is valid. -/
theorem made_valid {n : Nat} (h1 : 1 ≤ n) (h2 : n ≤ 7) (who : List Int) (code : Int) {rule : Int} (r1 : 1 ≤ rule) (r2 : rule ≤ 3) : validS rule (tiedS n who) (permS n code) = true := by
  rw [valid_eq, perm_len]
  rcases tied_bal h1 who with ⟨g1, g2⟩ | g
  · exact ⟨⟨r1, r2, h1, h2⟩, perm_bal n code, g2, g1, rising_sorted _⟩
  · omega
theorem break_valid {rule : Int} {M : List (List Q)} {tied lots : List Int} {least : Bool} (hv : validS rule tied lots = true) :
    breakS rule M tied lots least = if (leftS least (roundsS rule M) tied).length = 1 then ((leftS least (roundsS rule M) tied).headD 0, false) else (pickS lots least (leftS least (roundsS rule M) tied), true) := by
  unfold breakS
  rw [if_pos hv]
theorem head_mem {l : List Int} (h : l ≠ []) : l.headD 0 ∈ l := by
  cases l with
  | nil => exact absurd rfl h
  | cons a t => simp
theorem break_mem {rule : Int} {M : List (List Q)} {tied lots : List Int} {least : Bool} (hv : validS rule tied lots = true) (hs : ∀ v ∈ M, Shs v) : (breakS rule M tied lots least).1 ∈ tied := by
  rw [break_valid hv]
  have hne : tied ≠ [] := ((valid_eq _ _ _).1 hv).2.2.1
  have hr : ∀ v ∈ roundsS rule M, Shs v := by
    intro v h
    unfold roundsS at h
    split at h
    · simp at h
    · split at h
      · exact hs v (List.mem_reverse.1 h)
      · exact hs v h
  have hl := leftS_ne least hr hne
  have hsub := (leftS_sub least (roundsS rule M) tied).subset
  split
  · exact hsub (head_mem hl)
  · exact hsub (pick_mem hl)
/-- Backwards is forwards over the rounds turned round. -/
theorem break_rev {M : List (List Q)} {tied lots : List Int} {least : Bool} (hv1 : validS 1 tied lots = true) (hv2 : validS 2 tied lots = true) : breakS 1 M tied lots least = breakS 2 M.reverse tied lots least := by
  rw [break_valid hv1, break_valid hv2]
  rfl
/-- By lot. -/
theorem break_lot {M : List (List Q)} {tied lots : List Int} {least : Bool} (hv : validS 3 tied lots = true) : breakS 3 M tied lots least = (pickS lots least tied, decide (1 < tied.length)) := by
  rw [break_valid hv]
  have hne : tied ≠ [] := ((valid_eq _ _ _).1 hv).2.2.1
  have h0 : 0 < tied.length := List.length_pos_iff.2 hne
  show (if tied.length = 1 then (tied.headD 0, false) else (pickS lots least tied, true)) = _
  by_cases h1 : tied.length = 1
  · rw [if_pos h1]
    obtain ⟨a, rfl⟩ := List.length_eq_one_iff.1 h1
    rfl
  · rw [if_neg h1, decide_eq_true (by omega)]
/-- The place picked: none is beyond it. -/
theorem pick_best {lots : List Int} {least : Bool} : ∀ (t : List Int) (a : Int), ∀ y ∈ a :: t, if least then placeN lots y ≤ placeN lots (t.foldl (pickStep lots least) a) else placeN lots (t.foldl (pickStep lots least) a) ≤ placeN lots y := by
  intro t
  induction t with
  | nil =>
    intro a y hy
    rw [List.mem_singleton.1 hy]
    split <;> exact Nat.le_refl _
  | cons b t ih =>
    intro a y hy
    simp only [List.foldl_cons]
    have key := ih (pickStep lots least a b)
    have hself := key _ (List.mem_cons_self ..)
    have hstep : ∀ z, z = a ∨ z = b → if least then placeN lots z ≤ placeN lots (pickStep lots least a b) else placeN lots (pickStep lots least a b) ≤ placeN lots z := by
      intro z hz
      cases least
      · by_cases hd : placeN lots a < placeN lots b
        · have e : pickStep lots false a b = a := by unfold pickStep; rw [if_neg (by simp [hd])]
          rw [e]
          rcases hz with rfl | rfl <;> simp <;> omega
        · have e : pickStep lots false a b = b := by unfold pickStep; rw [if_pos (by simp [hd])]
          rw [e]
          rcases hz with rfl | rfl <;> simp <;> omega
      · by_cases hd : placeN lots a < placeN lots b
        · have e : pickStep lots true a b = b := by unfold pickStep; rw [if_pos (by simp [hd])]
          rw [e]
          rcases hz with rfl | rfl <;> simp <;> omega
        · have e : pickStep lots true a b = a := by unfold pickStep; rw [if_neg (by simp [hd])]
          rw [e]
          rcases hz with rfl | rfl <;> simp <;> omega
    by_cases hy2 : y = a ∨ y = b
    · have h1 := hstep y hy2
      cases least <;> simp at h1 hself ⊢ <;> omega
    · exact key y (by
        rcases List.mem_cons.1 hy with g | g
        · exact absurd (.inl g) hy2
        · rcases List.mem_cons.1 g with g | g
          · exact absurd (.inr g) hy2
          · exact List.mem_cons_of_mem _ g)
theorem pick_far {lots tied : List Int} {least : Bool} (_hne : tied ≠ []) : ∀ y ∈ tied, if least then placeN lots y ≤ placeN lots (pickS lots least tied) else placeN lots (pickS lots least tied) ≤ placeN lots y := by
  cases tied with
  | nil => intro y hy; simp at hy
  | cons a t => exact pick_best t a
theorem place_inj {l : List Int} {x y : Int} (hx : x ∈ l) (hy : y ∈ l) (h : placeN l x = placeN l y) : x = y := by
  induction l with
  | nil => simp at hx
  | cons a t ih =>
    unfold placeN at h
    by_cases h1 : a = x
    · by_cases h2 : a = y
      · rw [← h1, ← h2]
      · rw [if_pos h1, if_neg h2] at h; omega
    · by_cases h2 : a = y
      · rw [if_neg h1, if_pos h2] at h; omega
      · rw [if_neg h1, if_neg h2] at h
        refine ih ?_ ?_ (by omega)
        · rcases List.mem_cons.1 hx with g | g
          · exact absurd g.symm h1
          · exact g
        · rcases List.mem_cons.1 hy with g | g
          · exact absurd g.symm h2
          · exact g
theorem place_app {l m : List Int} {x : Int} (h : x ∈ l) : placeN (l ++ m) x = placeN l x := by
  induction l with
  | nil => simp at h
  | cons a t ih =>
    rw [List.cons_append]
    unfold placeN
    by_cases h1 : a = x
    · rw [if_pos h1, if_pos h1]
    · rw [if_neg h1, if_neg h1, ih (by
        rcases List.mem_cons.1 h with g | g
        · exact absurd g.symm h1
        · exact g)]
theorem place_lt {l : List Int} {x : Int} (h : x ∈ l) : placeN l x < l.length := by
  induction l with
  | nil => simp at h
  | cons a t ih =>
    unfold placeN
    by_cases h1 : a = x
    · rw [if_pos h1]; simp
    · rw [if_neg h1]
      have := ih (by
        rcases List.mem_cons.1 h with g | g
        · exact absurd g.symm h1
        · exact g)
      simp; omega
/-- The last and the first that are among the tied ones. -/
def lastS (tied : List Int) (l : List Int) : Int := ((l.filter fun c => hasB tied c).getLast?).getD (-1)
def firstS (tied : List Int) (l : List Int) : Int := (l.filter fun c => hasB tied c).headD (-1)
theorem last_snoc {tied l : List Int} {k : Nat} {y : Int} (h : k < l.length) (hy : l.getD k 0 = y) : lastS tied (l.take (k + 1)) = if hasB tied y then y else lastS tied (l.take k) := by
  unfold lastS
  rw [filter_snoc_i h hy]
  split
  · simp
  · simp
theorem first_snoc {tied l : List Int} {k : Nat} {y : Int} (h : k < l.length) (hy : l.getD k 0 = y) (h0 : ∀ x ∈ tied, 0 ≤ x) : firstS tied (l.take (k + 1)) = if hasB tied y then (if firstS tied (l.take k) < 0 then y else firstS tied (l.take k)) else firstS tied (l.take k) := by
  unfold firstS
  rw [filter_snoc_i h hy]
  cases hh : hasB tied y
  · simp
  · rw [if_pos rfl, if_pos rfl]
    cases hf : (l.take k).filter fun c => hasB tied c with
    | nil => simp
    | cons a t =>
      have ha : a ∈ (l.take k).filter fun c => hasB tied c := by rw [hf]; simp
      have := h0 a (hasB_true.1 (List.mem_filter.1 ha).2)
      simp
      intro h3
      omega
theorem place_take {l : List Int} {k : Nat} {y : Int} (h : k ≤ l.length) (hy : y ∈ l.take k) : placeN l y < k := by
  have h1 : placeN (l.take k ++ l.drop k) y = placeN (l.take k) y := place_app hy
  rw [List.take_append_drop] at h1
  rw [h1]
  have := place_lt hy
  rw [List.length_take] at this
  omega
theorem nodup_fresh {l : List Int} (hn : l.Nodup) {k : Nat} {y : Int} (h : k < l.length) (hy : l.getD k 0 = y) : y ∉ l.take k := by
  have h2 := hn.sublist (List.take_sublist (k + 1) l)
  rw [take_snoc_i h, hy, List.nodup_append] at h2
  intro hm
  exact h2.2.2 y hm y (by simp) rfl
theorem last_inv {tied lots : List Int} (hn : lots.Nodup) : ∀ k, k ≤ lots.length → ((∀ y ∈ lots.take k, y ∉ tied) ∧ lastS tied (lots.take k) = -1) ∨ (lastS tied (lots.take k) ∈ tied ∧ lastS tied (lots.take k) ∈ lots.take k ∧ ∀ y ∈ lots.take k, y ∈ tied → placeN lots y ≤ placeN lots (lastS tied (lots.take k))) := by
  intro k
  induction k with
  | zero => intro _; exact .inl ⟨fun y hy => by simp at hy, by simp [lastS]⟩
  | succ k ih =>
    intro hk
    obtain ⟨y, hy⟩ : ∃ y, lots.getD k 0 = y := ⟨_, rfl⟩
    have hp := placeN_at (by omega) (nodup_fresh hn (by omega) hy) hy
    rw [last_snoc (by omega) hy, take_snoc_i (by omega), hy]
    have ih := ih (by omega)
    by_cases ht : y ∈ tied
    · rw [if_pos (hasB_true.2 ht)]
      refine .inr ⟨ht, by simp, fun z hz _ => ?_⟩
      rcases List.mem_append.1 hz with g | g
      · have := place_take (by omega) g; omega
      · rw [List.mem_singleton.1 g]; exact Nat.le_refl _
    · rw [if_neg (fun g => ht (hasB_true.1 g))]
      rcases ih with ⟨h1, h2⟩ | ⟨h1, h2, h3⟩
      · refine .inl ⟨fun z hz => ?_, h2⟩
        rcases List.mem_append.1 hz with g | g
        · exact h1 z g
        · rw [List.mem_singleton.1 g]; exact ht
      · refine .inr ⟨h1, List.mem_append_left _ h2, fun z hz hzt => ?_⟩
        rcases List.mem_append.1 hz with g | g
        · exact h3 z g hzt
        · rw [List.mem_singleton.1 g] at hzt; exact absurd hzt ht
theorem first_inv {tied lots : List Int} (hn : lots.Nodup) (h0 : ∀ x ∈ tied, 0 ≤ x) : ∀ k, k ≤ lots.length → ((∀ y ∈ lots.take k, y ∉ tied) ∧ firstS tied (lots.take k) = -1) ∨ (firstS tied (lots.take k) ∈ tied ∧ firstS tied (lots.take k) ∈ lots.take k ∧ ∀ y ∈ lots.take k, y ∈ tied → placeN lots (firstS tied (lots.take k)) ≤ placeN lots y) := by
  intro k
  induction k with
  | zero => intro _; exact .inl ⟨fun y hy => by simp at hy, by simp [firstS]⟩
  | succ k ih =>
    intro hk
    obtain ⟨y, hy⟩ : ∃ y, lots.getD k 0 = y := ⟨_, rfl⟩
    have hp := placeN_at (by omega) (nodup_fresh hn (by omega) hy) hy
    rw [first_snoc (by omega) hy h0, take_snoc_i (by omega), hy]
    have ih := ih (by omega)
    by_cases ht : y ∈ tied
    · rw [if_pos (hasB_true.2 ht)]
      rcases ih with ⟨h1, h2⟩ | ⟨h1, h2, h3⟩
      · rw [if_pos (by rw [h2]; decide)]
        refine .inr ⟨ht, by simp, fun z hz hzt => ?_⟩
        rcases List.mem_append.1 hz with g | g
        · exact absurd hzt (h1 z g)
        · rw [List.mem_singleton.1 g]; exact Nat.le_refl _
      · rw [if_neg (by have := h0 _ h1; omega)]
        refine .inr ⟨h1, List.mem_append_left _ h2, fun z hz hzt => ?_⟩
        rcases List.mem_append.1 hz with g | g
        · exact h3 z g hzt
        · rw [List.mem_singleton.1 g, hp]
          exact Nat.le_of_lt (place_take (by omega) h2)
    · rw [if_neg (fun g => ht (hasB_true.1 g))]
      rcases ih with ⟨h1, h2⟩ | ⟨h1, h2, h3⟩
      · refine .inl ⟨fun z hz => ?_, h2⟩
        rcases List.mem_append.1 hz with g | g
        · exact h1 z g
        · rw [List.mem_singleton.1 g]; exact ht
      · refine .inr ⟨h1, List.mem_append_left _ h2, fun z hz hzt => ?_⟩
        rcases List.mem_append.1 hz with g | g
        · exact h3 z g hzt
        · rw [List.mem_singleton.1 g] at hzt; exact absurd hzt ht
theorem last_pick {tied lots : List Int} (hn : lots.Nodup) (hne : tied ≠ []) (hsub : ∀ x ∈ tied, x ∈ lots) : pickS lots true tied = lastS tied lots := by
  have hm := pick_mem (lots := lots) (least := true) hne
  have hf := pick_far (lots := lots) (least := true) hne
  simp only [if_true] at hf
  have hi := last_inv (tied := tied) hn lots.length (Nat.le_refl _)
  rw [List.take_length] at hi
  rcases hi with ⟨h1, _⟩ | ⟨h1, h2, h3⟩
  · exact absurd hm (h1 _ (hsub _ hm))
  · exact place_inj (hsub _ hm) h2 (Nat.le_antisymm (h3 _ (hsub _ hm) hm) (hf _ h1))
theorem first_pick {tied lots : List Int} (hn : lots.Nodup) (h0 : ∀ x ∈ tied, 0 ≤ x) (hne : tied ≠ []) (hsub : ∀ x ∈ tied, x ∈ lots) : pickS lots false tied = firstS tied lots := by
  have hm := pick_mem (lots := lots) (least := false) hne
  have hf := pick_far (lots := lots) (least := false) hne
  simp only [Bool.false_eq_true, if_false] at hf
  have hi := first_inv (tied := tied) hn h0 lots.length (Nat.le_refl _)
  rw [List.take_length] at hi
  rcases hi with ⟨h1, _⟩ | ⟨h1, h2, h3⟩
  · exact absurd hm (h1 _ (hsub _ hm))
  · exact place_inj (hsub _ hm) h2 (Nat.le_antisymm (hf _ h1) (h3 _ (hsub _ hm) hm))
/-- One that is strictly ahead is all that is left. -/
theorem ext_one {lt : Int → Int → Bool} {l : List Int} {x : Int} (hx : x ∈ l) (hn : l.Nodup) (hirr : ∀ a, lt a a = false) (h : ∀ y ∈ l, y ≠ x → lt x y = true) (hb : ∀ y ∈ l, y ≠ x → lt y x = false) : extA lt l = [x] := by
  have hmem : ∀ c, c ∈ extA lt l ↔ c = x := by
    intro c
    rw [mem_extA]
    constructor
    · rintro ⟨h1, h2⟩
      refine Classical.byContradiction fun hc => ?_
      have := h2 x hx
      rw [h c h1 hc] at this
      cases this
    · rintro rfl
      refine ⟨hx, fun k hk => ?_⟩
      by_cases hkc : k = c
      · rw [hkc]; exact hirr c
      · exact hb k hk hkc
  have hnd : (extA lt l).Nodup := hn.sublist extA_sub
  cases he : extA lt l with
  | nil => rw [he] at hmem; have := (hmem x).2 rfl; simp at this
  | cons a t =>
    rw [he] at hmem hnd
    have ha := (hmem a).1 (by simp)
    subst ha
    cases t with
    | nil => rfl
    | cons b t =>
      have hb := (hmem b).1 (by simp)
      subst hb
      simp at hnd
theorem left_one {least : Bool} {v : List Q} {vs : List (List Q)} {tied : List Int} {x : Int} (hx : x ∈ tied) (hn : tied.Nodup) (hirr : ∀ a, ltV v least a a = false) (h : ∀ y ∈ tied, y ≠ x → ltV v least x y = true) (hb : ∀ y ∈ tied, y ≠ x → ltV v least y x = false) : leftS least (v :: vs) tied = [x] := by
  have hl : leftS least vs [x] = [x] := leftS_one _ _ (by simp)
  unfold leftS
  split
  · rw [ext_one hx hn hirr h hb, hl]
  · rename_i h1
    have : tied = [x] := by
      cases tied with
      | nil => simp at hx
      | cons a t =>
        cases t with
        | nil => rw [List.mem_singleton.1 hx]
        | cons b t => simp at h1
    rw [this, hl]

end Go.Proofs.Nums

/- The walks of TieReverses and TieLots. -/
namespace Go.Proofs.YtbnhgmikegdppaaGreat
open Go.RowKit Go.Proofs.Kit Go.Proofs.Nums

theorem RoundsAt.shs {w : World} {v : Value} {M : List (List Q)} (h : RoundsAt w v M) : ∀ r ∈ M, Shs r := by
  intro r hr
  obtain ⟨p, c, rfl⟩ := h.shp
  obtain ⟨i, hi, he⟩ := List.mem_iff_getElem.1 hr
  obtain ⟨_, _, u, _, _, _, _, g⟩ := h.cellAt hi (v := r) (by rw [List.getD_eq_getElem?_getD, List.getElem?_eq_getElem hi, he]; rfl)
  exact g.shs
/-- A row of a list of rows that was made: its cell, and the blocks that it is read off. -/
theorem LLst.cellOn {B : Nat} {v : Value} {w : World} {M : List (List Q)} {css : List (List Value)} (h : LLst B v w M css) {k : Nat} (hk : k < M.length) {q : List Q} (hq : M.getD k [] = q) :
    ∃ g cap u, v = .slice (some ⟨g, 0, none⟩) M.length cap ∧ M.length ≤ cap ∧ cap ≤ 9223372036854775807 ∧ w.cell? ⟨g, k, none⟩ = some u ∧ On (fun b => b < w.heap.size) (fun w => rowR w [u] q) w := by
  have hkc : k < css.length := by rw [h.len]; exact hk
  have hc := List.getElem?_eq_getElem hkc
  have hlen := h.siz _ (List.getElem_mem hkc)
  obtain ⟨u, hu⟩ := List.length_eq_one_iff.1 hlen
  rw [hu] at hc
  have hx : M[k]? = some q := by
    rw [← hq, List.getD_eq_getElem?_getD, List.getElem?_eq_getElem hk]; rfl
  have hel := h.elt k [u] q hc hx
  rcases h.own.2 with ⟨_, hn⟩ | ⟨g, cap, cur, rfl, hg, hgg, hcc, hm, hs, ht⟩
  · omega
  · refine ⟨g, cap, u, rfl, hcc, by unfold maxLen at hm; omega, ?_, On.mono hel fun b hb => hb.2.1⟩
    have hf := flat_at (j := 0) h.siz hc rfl
    rw [cell_of_row w g k cur 47 (0, 0) hgg]
    rw [← ht, List.getElem?_take] at hf
    split at hf
    · simpa using hf
    · simp at hf

/-- Both ways round break a tie alike. -/
theorem rev_pack {vt vl : Value} {who : List Int} {code : Int} {n : Nat} {w : World} (ht : IntsAt w vt (tiedS n who)) (hl : IntsAt w vl (permS n code)) (h1 : 1 ≤ n) (h7 : n ≤ 7) (least : Bool) {M : List (List Q)} (hs : ∀ r ∈ M, Shs r) :
    ∃ x y, (∀ w' vM, Below w.heap.size w w' → RoundsAt w' vM M → Calls Tryz.prog 53 #[.int .i64 1, vM, vt, vl, .bool least] w' fun e w'' => e = .returned (.tuple #[.int .i64 x, .bool y]) ∧ Below w'.heap.size w' w'') ∧
      (∀ w' vM, Below w.heap.size w w' → RoundsAt w' vM M.reverse → Calls Tryz.prog 53 #[.int .i64 2, vM, vt, vl, .bool least] w' fun e w'' => e = .returned (.tuple #[.int .i64 x, .bool y]) ∧ Below w'.heap.size w' w'') ∧
      (∀ w', Below w.heap.size w w' → Calls Tryz.prog 65 #[vt, .int .i64 x] w' fun e w'' => e = .returned (.bool true) ∧ w' = w'') := by
  have v1 := made_valid h1 h7 who code (rule := 1) (by omega) (by omega)
  have v2 := made_valid h1 h7 who code (rule := 2) (by omega) (by omega)
  refine ⟨(breakS 1 M (tiedS n who) (permS n code) least).1, (breakS 1 M (tiedS n who) (permS n code) least).2, fun _ _ hb hM => tbreak_c hM (ht.keep hb) (hl.keep hb) 1 least, fun _ _ hb hM => ?_, fun _ hb => ?_⟩
  · rw [break_rev v1 v2]
    exact tbreak_c hM (ht.keep hb) (hl.keep hb) 2 least
  · have := has_c (ht.keep hb) (breakS 1 M (tiedS n who) (permS n code) least).1
    rw [hasB_true.2 (break_mem v1 hs)] at this
    exact this

end Go.Proofs.YtbnhgmikegdppaaGreat

/- The walk of TieDecides. -/
namespace Go.Proofs.Nums

theorem vote_whole {o : List Int} {c : Int} (h1 : c < o.length) (h0 : 0 ≤ c) : vote (wholesS o) c = wholeQ (o.getD c.toNat 0) := by
  have hl : c.toNat < o.length := by omega
  unfold vote wholesS
  rw [List.getD_eq_getElem?_getD, List.getElem?_map, List.getD_eq_getElem?_getD, List.getElem?_eq_getElem hl]
  rfl
/-- Votes of which one is apart. -/
def OneOff (o : List Int) (n x : Nat) (a b : Int) : Prop := o.length = n ∧ ∀ j, j < n → o.getD j 0 = if j = x then a else b
theorem decide_left {o : List Int} {n x : Nat} {a b : Int} {least : Bool} {tied : List Int} {vs : List (List Q)} (h : OneOff o n x a b) (hb : BalP n tied) (hx : (x : Int) ∈ tied)
    (hl : (if least then lessQ (wholeQ a) (wholeQ b) else lessQ (wholeQ b) (wholeQ a)) = true) : leftS least (wholesS o :: vs) tied = [(x : Int)] := by
  have hv : ∀ c ∈ tied, vote (wholesS o) c = wholeQ (if c = x then a else b) := fun c hc => by
    have g := hb.1 c hc
    rw [vote_whole (by rw [h.1]; exact g.2) g.1, h.2 c.toNat (by omega)]
    by_cases e : c = x
    · rw [if_pos e, if_pos (by omega)]
    · rw [if_neg e, if_neg (by omega)]
  refine left_one hx hb.2 (fun c => by unfold ltV; split <;> exact lessQ_irr _) (fun y hy hne => ?_) (fun y hy hne => ?_)
  · unfold ltV
    rw [hv _ hx, hv y hy, if_pos rfl, if_neg hne]
    exact hl
  · unfold ltV
    rw [hv _ hx, hv y hy, if_pos rfl, if_neg hne]
    cases least
    · exact lessQ_asy hl
    · exact lessQ_asy hl
theorem decides {rule : Int} {M : List (List Q)} {tied lots : List Int} {least : Bool} {x : Int} (hv : validS rule tied lots = true) (h : leftS least (roundsS rule M) tied = [x]) : breakS rule M tied lots least = (x, false) := by
  rw [break_valid hv, h]
  rfl
theorem oneOff_set {o : List Int} {n x : Nat} {a b c : Int} (h : OneOff o n x a b) (hx : x < n) : OneOff (o.set x c) n x c b := by
  refine ⟨by rw [List.length_set]; exact h.1, fun j hj => ?_⟩
  rw [List.getD_eq_getElem?_getD, List.getElem?_set]
  by_cases e : j = x
  · subst e
    rw [if_pos rfl, if_pos rfl, if_pos (by rw [h.1]; exact hx)]; rfl
  · rw [if_neg (fun g => e g.symm), if_neg e]
    have := h.2 j hj
    rw [if_neg e, List.getD_eq_getElem?_getD] at this
    exact this

end Go.Proofs.Nums
namespace Go.Proofs.YtbnhgmikegdppaaGreat
open Go.RowKit Go.Proofs.Kit Go.Proofs.Nums

/-- An array of integers of the call's own. -/
def OwnInt (w : World) (base g n : Nat) (o : List Int) : Prop := o.length = n ∧ w.ownsRow base 3 1 (.slice (some ⟨g, 0, none⟩) n n) n (o.map (Value.int .i64))
theorem OwnInt.read {w : World} {base g n : Nat} {o : List Int} (h : OwnInt w base g n o) : IntsAt w (.slice (some ⟨g, 0, none⟩) n n) o := RowAt.owned h.2
theorem OwnInt.cell {w : World} {base g n : Nat} {o : List Int} (h : OwnInt w base g n o) {j : Nat} (hj : j < n) : w.cell? ⟨g, j, none⟩ = some (.int .i64 (o.getD j 0)) := by
  have hl : j < o.length := by rw [h.1]; exact hj
  rw [h.2.cellAt j (by omega), List.getElem?_map, List.getD_eq_getElem?_getD, List.getElem?_eq_getElem hl]; rfl
theorem OwnInt.free {w : World} {base g n : Nat} {o : List Int} (h : OwnInt w base g n o) (j : Nat) : w.frozen? ⟨g, j, none⟩ = false := h.2.frozenAt j
theorem OwnInt.put {w : World} {base g n : Nat} {o : List Int} (h : OwnInt w base g n o) (j : Nat) (x : Int) :
    OwnInt (w.setCell ⟨g, j, none⟩ (.int .i64 x)) base g n (o.set j x) ∧ Below base w (w.setCell ⟨g, j, none⟩ (.int .i64 x)) := by
  have hs := h.2.stored j (.int .i64 x)
  refine ⟨⟨by rw [List.length_set]; exact h.1, ?_⟩, ?_⟩
  · rw [List.map_set]; exact hs.1
  · exact (Below.refl base w).setCell (h.2.lt g rfl).1 _
theorem OwnInt.keep {w w' : World} {base g n : Nat} {o : List Int} (h : OwnInt w base g n o) (hb : Below w.heap.size w w') : OwnInt w' base g n o := ⟨h.1, ownsRow_below h.2 hb⟩
theorem OwnInt.made {w : World} {base g n : Nat} (h : w.ownsRow base 3 1 (.slice (some ⟨g, 0, none⟩) n n) n (madeCells (Value.int .i64 0).cells (n * 1)).toList) : OwnInt w base g n (List.replicate n 0) := by
  refine ⟨List.length_replicate, ?_⟩
  rw [show (Value.int IntKind.i64 0).cells = #[.int .i64 0] from rfl, toList_madeCells_one, Nat.mul_one] at h
  rw [List.map_replicate]; exact h

theorem slice_of_own {α : Type} {R : World → List Value → α → Prop} {base k : Nat} {e : TypeId} {w : World} {v : Value} {l : List α} {css : List (List Value)} (h1 : w.ownsRow base e k v l.length css.flatten) (h2 : css.length = l.length) (h3 : ∀ c ∈ css, c.length = k)
    (hel : ∀ (i : Nat) (c : List Value) (x : α), css[i]? = some c → l[i]? = some x → R w c x) : SliceOf R k w v l := by
  rcases h1.2 with ⟨rfl, hn⟩ | ⟨g, cap, cur, rfl, hg, hgg, hc, hm, hs, ht⟩
  · have : l = [] := List.eq_nil_of_length_eq_zero hn
    subst this
    exact SliceOf.nil w
  · refine ⟨css, _, cap, rfl, hc, by unfold maxLen at hm; omega, fun hh => by simp at hh, h2, h3, fun q hq i c j u hi hj => ?_, hel⟩
    obtain rfl := Option.some.inj hq
    have hf := flat_at h3 hi hj
    rw [Addr.add_lit, Nat.zero_add, cell_of_row w g _ cur e (0, 0) hgg]
    rw [← ht, List.getElem?_take] at hf
    split at hf
    · simpa using hf
    · simp at hf

/-- append([]T{x}, l...), T a row: l was made by the call, x lies elsewhere. -/
theorem append_rows {ops : Array Oper} {rest : List Oper} {o : Oper} {a : Act} {Q0 : Exit → Act → World → Prop} {w : World} (hgd : Region.wanted o (yielded ops a.tmps) = true) {s x : Operand}
    (ho : o.op = .call { callee := .builtin .append, args := #[s, x], argTypes := #[68, 68] })
    {base g : Nat} {v1 : Value} (hown : w.ownsRow base 47 1 (.slice (some ⟨g, 0, none⟩) 1 1) 1 [v1]) (hs : a.eval s = .slice (some ⟨g, 0, none⟩) 1 1)
    {B : Nat} {v2 : Value} {M : List (List Q)} {css : List (List Value)} (hL : LLst B v2 w M css) (hx : a.eval x = v2) (hgB : g < B) {q : List Q} (hq : On (fun b => b < g) (fun w => RatsAt w v1 q) w) (hgw : g ≤ w.heap.size) (hbase : base ≤ w.heap.size) (hM : M.length ≤ 6)
    (h : ∀ v' w', RoundsAt w' v' (q :: M) → Below base w w' → wpList Tryz.prog ops Q0 rest (a.put o.dst v') w') : wpList Tryz.prog ops Q0 (o :: rest) a w := by
  have hmk : ∀ v' w', w'.ownsRow base 47 1 v' (1 + M.length) ([v1] ++ css.flatten) → (∀ b, b < w.heap.size → some b ≠ some g → w'.heap[b]? = w.heap[b]?) → RoundsAt w' v' (q :: M) := by
    intro v' w' ho hb
    refine slice_of_own (base := base) (e := 47) (css := [v1] :: css) ?_ (by simp [hL.len]) ?_ ?_
    · rw [List.length_cons, Nat.add_comm]
      exact ho
    · intro c hc
      rcases List.mem_cons.1 hc with rfl | hc
      · rfl
      · exact hL.siz c hc
    · intro i c y hi hy
      cases i with
      | zero =>
        simp only [List.getElem?_cons_zero, Option.some.injEq] at hi hy
        subst hi
        subst hy
        exact ⟨_, rfl, hq w' fun b hbg => hb b (by omega) (fun e => by simp at e; omega)⟩
      | succ i =>
        simp only [List.getElem?_cons_succ] at hi hy
        exact hL.elt i c y hi hy w' fun b hbb => hb b hbb.2.1 (fun e => by simp at e; omega)
  rcases hL.own.2 with ⟨rfl, hn⟩ | ⟨g2, cap, cur, rfl, hg, hgg, hc, hm, hs2, ht⟩
  · refine append_nil erRR hgd ho hown hs hx (h _ w (hmk _ w ?_ (fun _ _ _ => rfl)) (Below.refl _ _))
    have : M = [] := List.eq_nil_of_length_eq_zero hn
    subst this
    have : css = [] := List.eq_nil_of_length_eq_zero hL.len
    subst this
    exact hown
  · refine append_row erRR hgd ho hown hs hx (by rw [flat_len hL.siz, hL.len]) (fun j u hj => ?_) (fun u hu => ?_) (by omega) (by omega) hbase (fun v' w' h1 h2 h3 => h v' w' (hmk v' w' h1 (fun b hb hne => h2.block b hb (by simpa [Value.ownBlock] using hne))) h3)
    · rw [Addr.add_lit, Nat.zero_add, cell_of_row w g2 _ cur 47 (0, 0) hgg]
      rw [← ht, List.getElem?_take] at hj
      split at hj
      · simpa using hj
      · simp at hj
    · obtain ⟨c, hc1, hc2⟩ := List.mem_flatten.1 hu
      obtain ⟨i, hi, he⟩ := List.mem_iff_getElem.1 hc1
      have hiM : i < M.length := by rw [← hL.len]; exact hi
      obtain ⟨u', e, hr⟩ := (hL.elt i c M[i] (by rw [List.getElem?_eq_getElem hi, he]) (List.getElem?_eq_getElem hiM)).now
      rw [e, List.mem_singleton] at hc2
      subst hc2
      obtain ⟨p, n, c, rfl⟩ := hr.sl
      rfl

end Go.Proofs.YtbnhgmikegdppaaGreat

/- The plain law of ties: candidates renamed. -/
namespace Go.Proofs.Nums

/-- s carries 0 .. n-1 into itself, each to another. -/
structure Ren (s : Int → Int) (n : Nat) : Prop where
  rng : ∀ c : Int, 0 ≤ c → c < n → 0 ≤ s c ∧ s c < n
  inj : ∀ a b : Int, 0 ≤ a → a < n → 0 ≤ b → b < n → s a = s b → a = b
def RowRen (s : Int → Int) (n : Nat) (v v' : List Q) : Prop := ∀ c : Int, 0 ≤ c → c < n → vote v' (s c) = vote v c
def RowsRen (P : List Q → List Q → Prop) : List (List Q) → List (List Q) → Prop
  | [], [] => True
  | v :: vs, v' :: vs' => P v v' ∧ RowsRen P vs vs'
  | _, _ => False
theorem RowsRen.snoc {P : List Q → List Q → Prop} {a b : List (List Q)} {v v' : List Q} (h : RowsRen P a b) (hv : P v v') : RowsRen P (a ++ [v]) (b ++ [v']) := by
  induction a generalizing b with
  | nil =>
    cases b with
    | nil => exact ⟨hv, trivial⟩
    | cons x b => exact absurd h (by simp [RowsRen])
  | cons x a ih =>
    cases b with
    | nil => exact absurd h (by simp [RowsRen])
    | cons y b => exact ⟨h.1, ih h.2⟩
theorem RowsRen.rev {P : List Q → List Q → Prop} {a b : List (List Q)} (h : RowsRen P a b) : RowsRen P a.reverse b.reverse := by
  induction a generalizing b with
  | nil =>
    cases b with
    | nil => trivial
    | cons x b => exact absurd h (by simp [RowsRen])
  | cons x a ih =>
    cases b with
    | nil => exact absurd h (by simp [RowsRen])
    | cons y b =>
      rw [List.reverse_cons, List.reverse_cons]
      exact (ih h.2).snoc h.1
theorem RowsRen.rounds {P : List Q → List Q → Prop} {a b : List (List Q)} (h : RowsRen P a b) (rule : Int) : RowsRen P (roundsS rule a) (roundsS rule b) := by
  unfold roundsS
  split
  · trivial
  · split
    · exact h.rev
    · exact h
theorem extA_ren {lt lt' : Int → Int → Bool} {s : Int → Int} {l l' : List Int} (hp : l'.Perm (l.map s)) (h : ∀ a ∈ l, ∀ b ∈ l, lt' (s a) (s b) = lt a b) : (extA lt' l').Perm ((extA lt l).map s) := by
  unfold extA
  refine (hp.filter _).trans ?_
  rw [List.filter_map]
  have e : l.filter ((fun c => l'.all fun k => !lt' k c) ∘ s) = l.filter (fun c => l.all fun k => !lt k c) := by
    refine List.filter_congr fun c hc => ?_
    simp only [Function.comp]
    rw [Bool.eq_iff_iff, List.all_eq_true, List.all_eq_true]
    constructor
    · intro g k hk
      have := g (s k) (hp.mem_iff.2 (List.mem_map_of_mem hk))
      rw [h k hk c hc] at this
      exact this
    · intro g k hk
      obtain ⟨k', hk', rfl⟩ := List.mem_map.1 (hp.mem_iff.1 hk)
      rw [h k' hk' c hc]
      exact g k' hk'
  rw [e]
theorem leftS_ren {s : Int → Int} {n : Nat} {least : Bool} {vs vs' : List (List Q)} (hr : RowsRen (RowRen s n) vs vs') {l l' : List Int} (hp : l'.Perm (l.map s)) (hl : ∀ c ∈ l, 0 ≤ c ∧ c < n) : (leftS least vs' l').Perm ((leftS least vs l).map s) := by
  induction vs generalizing vs' l l' with
  | nil =>
    cases vs' with
    | nil => exact hp
    | cons y b => exact absurd hr (by simp [RowsRen])
  | cons v vs ih =>
    cases vs' with
    | nil => exact absurd hr (by simp [RowsRen])
    | cons v' vs' =>
      have hlen : l'.length = l.length := by rw [hp.length_eq, List.length_map]
      unfold leftS
      rw [hlen]
      split
      · refine ih hr.2 (extA_ren hp fun a ha b hb => ?_) (fun c hc => hl c (extA_sub.subset hc))
        have ga := hl a ha
        have gb := hl b hb
        unfold ltV
        rw [hr.1 a ga.1 ga.2, hr.1 b gb.1 gb.2]
      · exact ih hr.2 hp hl
theorem place_ren {s : Int → Int} {lots : List Int} {c : Int} (h : ∀ y ∈ lots, s y = s c → y = c) : placeN (lots.map s) (s c) = placeN lots c := by
  induction lots with
  | nil => rfl
  | cons y l ih =>
    rw [List.map_cons]
    unfold placeN
    by_cases e : y = c
    · subst e
      rw [if_pos rfl, if_pos rfl]
    · rw [if_neg e, if_neg (fun g => e (h y (by simp) g)), ih (fun z hz => h z (List.mem_cons_of_mem _ hz))]
theorem pick_ren {s : Int → Int} {n : Nat} (hs : Ren s n) {lots l l' : List Int} {least : Bool} (hlots : ∀ c ∈ lots, 0 ≤ c ∧ c < n) (hp : l'.Perm (l.map s)) (hne : l ≠ []) (hsub : ∀ x ∈ l, x ∈ lots) : pickS (lots.map s) least l' = s (pickS lots least l) := by
  have hne' : l' ≠ [] := fun e => by
    rw [e] at hp
    have := hp.length_eq
    simp at this
    exact hne (List.eq_nil_of_length_eq_zero this.symm)
  have hpl : ∀ c, c ∈ lots → placeN (lots.map s) (s c) = placeN lots c := fun c hc => place_ren fun y hy e => by
    have g1 := hlots y hy
    have g2 := hlots c hc
    exact hs.inj _ _ g1.1 g1.2 g2.1 g2.2 e
  have hm' := pick_mem (lots := lots.map s) (least := least) hne'
  have hf' := pick_far (lots := lots.map s) (least := least) hne'
  have hm := pick_mem (lots := lots) (least := least) hne
  have hf := pick_far (lots := lots) (least := least) hne
  obtain ⟨z, hz, ez⟩ := List.mem_map.1 (hp.mem_iff.1 hm')
  rw [← ez] at hf' ⊢
  have hzl := hsub z hz
  have hpl' := hsub _ hm
  congr 1
  refine place_inj hzl hpl' ?_
  have f1 := hf z hz
  have f2 := hf' (s (pickS lots least l)) (hp.mem_iff.2 (List.mem_map_of_mem hm))
  rw [hpl _ hzl, hpl _ hpl'] at f2
  cases least
  · simp at f1 f2; omega
  · simp at f1 f2; omega
/-- The choice is renamed with the candidates. -/
theorem break_ren {s : Int → Int} {n : Nat} (hs : Ren s n) {rule : Int} {M M' : List (List Q)} {t t' lots : List Int} {least : Bool} (hv : validS rule t lots = true) (hv' : validS rule t' (lots.map s) = true) (hn : lots.length = n) (hr : RowsRen (RowRen s n) M M') (hsh : ∀ r ∈ M, Shs r) (hp : t'.Perm (t.map s)) :
    breakS rule M' t' (lots.map s) least = (s (breakS rule M t lots least).1, (breakS rule M t lots least).2) := by
  obtain ⟨_, hbl, hne, hbt, _⟩ := (valid_eq _ _ _).1 hv
  rw [hn] at hbl hbt
  have hr2 : ∀ v ∈ roundsS rule M, Shs v := by
    intro v h
    unfold roundsS at h
    split at h
    · simp at h
    · split at h
      · exact hsh v (List.mem_reverse.1 h)
      · exact hsh v h
  have key := leftS_ren (least := least) (hr.rounds rule) hp hbt.1
  have hne2 := leftS_ne least hr2 hne
  have hsub := (leftS_sub least (roundsS rule M) t).subset
  rw [break_valid hv, break_valid hv']
  obtain ⟨l, hl⟩ : ∃ l, leftS least (roundsS rule M) t = l := ⟨_, rfl⟩
  obtain ⟨l', hl'⟩ : ∃ l, leftS least (roundsS rule M') t' = l := ⟨_, rfl⟩
  rw [hl] at key hne2 hsub ⊢
  rw [hl'] at key ⊢
  have hlen : l'.length = l.length := by rw [key.length_eq, List.length_map]
  rw [hlen]
  split
  · rename_i h1
    obtain ⟨a, rfl⟩ := List.length_eq_one_iff.1 h1
    obtain ⟨b, rfl⟩ := List.length_eq_one_iff.1 (hlen.trans h1)
    have := key.mem_iff (a := b)
    simp at this
    simp [this]
  · rw [pick_ren hs hbl.1 key hne2 (fun x hx => by
      have hx := hsub hx
      have h1 := hbt.1 x hx
      exact bal_mem (by rw [hn]; exact hbl) h1.1 (by rw [hn]; exact h1.2))]

/-- Renaming by a permutation. -/
def sig (n : Nat) (code : Int) (c : Int) : Int := (permS n code).getD c.toNat 0
theorem sig_ren (n : Nat) (code : Int) : Ren (sig n code) n := by
  have hl := perm_len n code
  refine ⟨fun (c : Int) h0 h1 => ?_, fun (a b : Int) a0 a1 b0 b1 e => ?_⟩
  · exact perm_mem.1 (mem_getD (k := c.toNat) (by omega) rfl)
  · unfold sig at e
    have ha : a.toNat < (permS n code).length := by omega
    have hb : b.toNat < (permS n code).length := by omega
    rw [List.getD_eq_getElem?_getD, List.getD_eq_getElem?_getD, List.getElem?_eq_getElem ha, List.getElem?_eq_getElem hb] at e
    have := (List.getElem_inj (perm_nodup n code)).1 (show (permS n code)[a.toNat] = (permS n code)[b.toNat] from e)
    omega
theorem rename_eq (l : List Int) (n : Nat) (code : Int) : renameS l (permS n code) = l.map (sig n code) := rfl
theorem ren_nodup {s : Int → Int} {n : Nat} (hs : Ren s n) {l : List Int} (h : BalP n l) : (l.map s).Nodup := by
  have hb := h.1
  have hn := h.2
  clear h
  induction l with
  | nil => exact List.nodup_nil
  | cons a t ih =>
    rw [List.nodup_cons] at hn
    rw [List.map_cons, List.nodup_cons]
    refine ⟨fun hm => ?_, ih (fun c hc => hb c (List.mem_cons_of_mem _ hc)) hn.2⟩
    obtain ⟨b, hbm, e⟩ := List.mem_map.1 hm
    have g1 := hb a (by simp)
    have g2 := hb b (List.mem_cons_of_mem _ hbm)
    exact hn.1 (by rw [← hs.inj b a g2.1 g2.2 g1.1 g1.2 e]; exact hbm)
theorem ren_tied {n : Nat} (h7 : n ≤ 7) {names : Int} {t : List Int} (h : BalP n t) : (risingS (renameS t (permS n names))).Perm (t.map (sig n names)) := by
  have hs := sig_ren n names
  refine (List.perm_ext_iff_of_nodup ((rising_sorted _).imp fun g => by omega) (ren_nodup hs h)).2 fun x => ?_
  rw [mem_rising, rename_eq]
  constructor
  · exact fun g => g.2.2
  · intro g
    obtain ⟨c, hc, rfl⟩ := List.mem_map.1 g
    have h1 := h.1 c hc
    have h2 := hs.rng c h1.1 h1.2
    exact ⟨h2.1, by omega, g⟩
theorem ren_valid {n : Nat} (h7 : n ≤ 7) {names rule : Int} {t lots : List Int} (hn : lots.length = n) (hv : validS rule t lots = true) : validS rule (risingS (renameS t (permS n names))) (renameS lots (permS n names)) = true := by
  obtain ⟨hr, hbl, hne, hbt, hsrt⟩ := (valid_eq _ _ _).1 hv
  rw [hn] at hbl hbt hr
  have hs := sig_ren n names
  have hp := ren_tied h7 (names := names) hbt
  rw [valid_eq, rename_eq lots, List.length_map, hn]
  refine ⟨hr, ⟨fun c hc => ?_, ren_nodup hs hbl⟩, fun e => ?_, ⟨fun c hc => ?_, (rising_sorted _).imp fun g => by omega⟩, rising_sorted _⟩
  · obtain ⟨y, hy, rfl⟩ := List.mem_map.1 hc
    have h1 := hbl.1 y hy
    exact hs.rng y h1.1 h1.2
  · rw [e] at hp
    have := hp.length_eq
    simp at this
    exact hne (List.eq_nil_of_length_eq_zero this.symm)
  · obtain ⟨y, hy, rfl⟩ := List.mem_map.1 (hp.mem_iff.1 hc)
    have h1 := hbt.1 y hy
    exact hs.rng y h1.1 h1.2

end Go.Proofs.Nums
