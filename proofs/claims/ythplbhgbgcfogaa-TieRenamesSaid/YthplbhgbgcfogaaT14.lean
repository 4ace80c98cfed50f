/- The reference's Break: it is breakS. -/
import Derived.Test.YthplbhgbgcfogaaT13
namespace Go.Proofs.Nums
theorem pick_one {lots : List Int} {least : Bool} {l : List Int} (h : l ≠ []) : l.getD 0 0 = pickS lots least (l.take 1) := by
  cases l with
  | nil => exact absurd rfl h
  | cons a t => rfl
theorem pick_yes {lots : List Int} {least : Bool} {b y p : Int} (h : decide (placeN lots b < placeN lots y) = least) (e : p = pickStep lots least b y) : y = p := by
  rw [e, pickStep, if_pos h]
theorem pick_no {lots : List Int} {least : Bool} {b y p : Int} (h : decide (placeN lots b < placeN lots y) ≠ least) (e : p = pickStep lots least b y) : b = p := by
  rw [e, pickStep, if_neg h]
end Go.Proofs.Nums
namespace Go.Proofs.Ythplbhgbgcfogaa
open Go.RowKit Go.Proofs.Kit Go.Proofs.Nums

set_option maxRecDepth 100000 in
set_option maxHeartbeats 8000000 in
theorem rbreak_1 {ve vt vl : Value} {L : List (List Q)} {tied lots : List Int} {w : World} (hL : RoundsAt w ve L) (ht : IntsAt w vt tied) (hl : IntsAt w vl lots) (least : Bool) (hv : validS 1 tied lots = true) :
    Calls Try.prog 14 #[.int .i64 1, ve, vt, vl, .bool least] w fun e w' => e = .returned (.tuple #[.int .i64 (breakS 1 L tied lots least).1, .bool (breakS 1 L tied lots least).2]) ∧ Below w.heap.size w w' := by
  obtain ⟨⟨_, _, _, hl7⟩, hbl, htne, hbt, htp⟩ := (valid_eq _ _ _).1 hv
  have htlen := nodup_len _ _ hbt.2 hbt.1
  have hLm : L.length ≤ 9223372036854775807 := SliceOf.len hL
  have HL := Lib.hid hL
  have HT := Lib.hid ht
  have HLO := Lib.hid hl
  have HSUB : Hid (∀ x ∈ tied, x ∈ lots) := Lib.hid (fun x hx => bal_mem hbl (hbt.1 x hx).1 (hbt.1 x hx).2)
  have HRG : Hid (∀ x ∈ tied, 0 ≤ x ∧ x < 1000) := Lib.hid (fun x hx => by have := hbt.1 x hx; omega)
  have HND := Lib.hid hbt.2
  have HTNE := Lib.hid htne
  have h7 : lots.length ≤ 1000 := by omega
  have h71 : tied.length ≤ 1000 := by omega
  have TV : Hid (∀ w', Below w.heap.size w w' → Calls Try.prog 16 #[.int .i64 1, vt, vl] w' fun e w'' => e = .returned (.bool true) ∧ Below w'.heap.size w' w'') := Lib.hid (fun w' hb => by
    have := rtie_c (ht.keep hb) (hl.keep hb) 1
    rw [hv] at this
    exact this)
  have HBR := Lib.hid (fun l' h => break_of (L := L) (l := l') (least := least) hv h)
  obtain ⟨ra, hra⟩ : ∃ x, (breakS 1 L tied lots least).1 = x := ⟨_, rfl⟩
  obtain ⟨rb, hrb⟩ : ∃ x, (breakS 1 L tied lots least).2 = x := ⟨_, rfl⟩
  rw [hra, hrb] at HBR
  rw [hra, hrb]
  clear hra hrb hv hbl htne hbt htp hl7
  obtain ⟨p2, c2, rfl⟩ := hL.shp
  obtain ⟨p3, c3, rfl⟩ := ht.shape
  obtain ⟨p4, c4, rfl⟩ := hl.shape
  have PL : Hid (∀ w', Below w.heap.size w w' → ∀ x, Calls Try.prog 33 #[.slice p4 lots.length c4, .int .i64 x] w' fun e w'' => e = .returned (.int .i64 (placeN lots x : Nat)) ∧ w' = w'') := Lib.hid (fun w' hb x => place_c (hl.keep hb) x)
  obtain ⟨R, hR⟩ : ∃ R, roundsS 1 L = R := ⟨_, rfl⟩
  have HRR : Hid (R.length = L.length ∧ R = L.reverse) := Lib.hid (by rw [← hR]; exact ⟨List.length_reverse, rfl⟩)
  rw [hR] at HBR
  obtain ⟨n, hn⟩ : ∃ n, L.length = n := ⟨_, rfl⟩
  obtain ⟨nt, hnt⟩ : ∃ n, tied.length = n := ⟨_, rfl⟩
  obtain ⟨nl, hnl⟩ : ∃ n, lots.length = n := ⟨_, rfl⟩
  have HN := Lib.hid hn
  have HNL : Hid (lots.length ≤ 1000) := Lib.hid h7
  have HNT : Hid (tied.length ≤ 1000) := Lib.hid h71
  rw [hn] at hLm HL
  rw [hn]
  rw [hnt] at HT TV
  rw [hnl] at HLO TV PL
  rw [hnt, hnl]
  clear hL ht hl hR hn hnt hnl h7 h71 htlen
  go_enter Try.func14, Try.ntmps14
  go_wp2_with (go_at_call 16; ((with_reducible refine (TV.out _ (Below.refl _ _)).mono ?_); rintro e w1 ⟨rfl, hb1⟩))
  go_loopw [12, 13] (fun lv iv wr => ∃ k : Nat, ∃ l : List Int, k ≤ n ∧ iv = .int .i64 k ∧ IntsAt wr lv l ∧ Below w.heap.size w wr ∧ Hid (l ≠ [] ∧ l.Sublist tied ∧ leftS least R tied = leftS least (R.drop k) l)) (fun _ iv _ => n - (intOf iv).toNat)
  case atStart => exact ⟨0, tied, by omega, rfl, HT.out.keep hb1, hb1, Lib.hid ⟨HTNE.out, List.Sublist.refl _, rfl⟩⟩
  case round =>
    obtain ⟨k, l, hk, rfl, hI, hbel, hP⟩ := hrel
    obtain ⟨p1, c1, rfl⟩ := hI.shape
    obtain ⟨m, hm⟩ : ∃ n, l.length = n := ⟨_, rfl⟩
    have HM := Lib.hid hm
    have HI := Lib.hid hI
    rw [hm] at HI
    have hmle : m ≤ 1000 := by rw [← hm]; exact Nat.le_trans hP.out.2.1.length_le HNT.out
    have hm0 : 0 < m := by rw [← hm]; exact List.length_pos_iff.2 hP.out.1
    have hm0z : (0 : Int) < (m : Int) := by omega
    rw [hm]
    clear hI hm
    by_cases hkn : k < n
    · have hkz : (k : Int) < (n : Int) := by omega
      obtain ⟨n1, hn1⟩ : ∃ n1 : Nat, n1 + 1 = n := ⟨n - 1, by omega⟩
      obtain ⟨j, hj⟩ : ∃ j : Nat, j + k = n1 := ⟨n1 - k, by omega⟩
      have en1 : (n : Int) - 1 = (n1 : Int) := by omega
      have ej : (n1 : Int) - (k : Int) = (j : Int) := by omega
      have en2 : IntKind.i64.wrap (n1 : Int) = (n1 : Int) := w64 (by omega) (by omega)
      have ej2 : IntKind.i64.wrap (j : Int) = (j : Int) := w64 (by omega) (by omega)
      have hjn : j < n := by omega
      have hjz : (j : Int) < (n : Int) := by omega
      by_cases hm1 : 1 < m
      · have hmz : (1 : Int) < (m : Int) := by omega
        obtain ⟨v, hv⟩ : ∃ v, L.getD j [] = v := ⟨_, rfl⟩
        obtain ⟨bb, off, u, hp0, hcc, hcm, hcell, hrow⟩ := (HL.out.keep hbel).cellAt (k := j) (by rw [HN.out]; omega) hv
        subst hp0
        have HRK : Hid (R.getD k [] = v) := Lib.hid (by rw [← hv]; rw [HRR.out.2, rev_get (j := j) (by rw [HN.out]; omega)])
        have HST := Lib.hid (lround_step (by rw [HRR.out.1, HN.out]; exact hkn) HRK.out hP.out.2.2 (by rw [HM.out]; exact hm1))
        have HNE : Hid (extA (ltV v least) l ≠ []) := Lib.hid (extA_ne' (ltV_swo hrow.shs least) hP.out.1)
        have HS2 : Hid ((extA (ltV v least) l).Sublist tied) := Lib.hid (extA_sub.trans hP.out.2.1)
        have EX := Lib.hid (extreme_c hrow HI.out (fun x hx => HRG.out x (hP.out.2.1.subset hx)) (by rw [HM.out]; omega) least)
        obtain ⟨pr, nr, cr, rfl⟩ := hrow.sl
        clear hv hrow
        go_wp2_with (go_at_call 32; ((with_reducible refine EX.out.mono ?_); rintro e w5 ⟨v5, rfl, hi5, hb5⟩; have hB5 := bel2' hbel hb5))
        go_roundw
        case rel => exact ⟨k + 1, _, by omega, by go_num, hi5, hB5, Lib.hid ⟨HNE.out, HS2.out, HST.out⟩⟩
        case measure => simp [intOf] <;> omega
      · have hmz : ¬ (1 : Int) < (m : Int) := by omega
        have HST := Lib.hid (lround_skip (least := least) (by rw [HRR.out.1, HN.out]; exact hkn) hP.out.2.2 (by rw [HM.out]; exact hm1))
        go_wp2_with fail
        go_roundw
        case rel => exact ⟨k + 1, _, by omega, by go_num, HI.out, hbel, Lib.hid ⟨hP.out.1, hP.out.2.1, HST.out⟩⟩
        case measure => simp [intOf] <;> omega
    · have hkz : ¬ (k : Int) < (n : Int) := by omega
      have HE : Hid (leftS least R tied = l) := Lib.hid (lround_end (.inl (by rw [HRR.out.1, HN.out]; exact hkn)) hP.out.2.2)
      have hBR := HBR.out l HE.out
      rw [HM.out] at hBR
      obtain ⟨bb, off, hp0, _, _, hcell⟩ := HI.out.cellAt 0 (by rw [HM.out]; omega)
      subst hp0
      have hcell : wr.cell? ⟨bb, off, none⟩ = some (.int .i64 (l.getD 0 0)) := hcell
      obtain ⟨x, hx⟩ : ∃ x, l.getD 0 0 = x := ⟨_, rfl⟩
      by_cases hm1 : m = 1
      · subst hm1
        have HX : Hid (ra = l.getD 0 0 ∧ rb = false) := Lib.hid (by rw [← head_getD HM.out]; exact hBR.1 rfl)
        rw [hx] at hcell HX
        clear hBR hx
        go_wp2_with fail
        go_ret2
        exact ⟨ret_ib HX.out.1.symm HX.out.2.symm, hbel⟩
      · have hmz : ((m : Int) == 1) = false := by rw [beq_eq_false_iff_ne]; omega
        have HX : Hid (ra = pickS lots least l ∧ rb = true) := Lib.hid (hBR.2 hm1)
        have H0 : Hid (x = pickS lots least (l.take 1)) := Lib.hid (by rw [← hx]; exact pick_one hP.out.1)
        rw [hx] at hcell
        clear hBR hx
        obtain ⟨wo, rfl⟩ : ∃ x, x = wr := ⟨_, rfl⟩
        go_wp2_with fail
        go_loopw [15, 16] (fun bv iv wq => ∃ i : Nat, ∃ b : Int, 1 ≤ i ∧ i ≤ m ∧ iv = .int .i64 i ∧ bv = .int .i64 b ∧ Below wo.heap.size wo wq ∧ Hid (b = pickS lots least (l.take i))) (fun _ iv _ => m - (intOf iv).toNat)
        case atStart => exact ⟨1, x, by omega, by omega, rfl, rfl, Below.refl _ _, H0⟩
        case round =>
          obtain ⟨i, b, hi1, him, rfl, rfl, hbq, hB⟩ := hrel
          have hbelq := bel2' hbel hbq
          by_cases hil : i < m
          · have hiz : (i : Int) < (m : Int) := by omega
            obtain ⟨bb2, off2, hp2, _, _, hcelli⟩ := (HI.out.keep hbq).cellAt i (by rw [HM.out]; exact hil)
            simp only [Option.some.injEq, Addr.mk.injEq, and_true] at hp2
            obtain ⟨rfl, rfl⟩ := hp2
            obtain ⟨y, hy⟩ : ∃ y, l.getD i 0 = y := ⟨_, rfl⟩
            have HS := Lib.hid (pick_take (lots := lots) (least := least) (l := l) (k := i) (by omega) (by rw [HM.out]; exact hil) hy)
            rw [hy] at hcelli
            rw [← hB.out] at HS
            have HPY := Lib.hid (@pick_yes lots least b y _ · HS.out)
            have HPN := Lib.hid (@pick_no lots least b y _ · HS.out)
            obtain ⟨px, hpx⟩ : ∃ x, placeN lots y = x := ⟨_, rfl⟩
            obtain ⟨pb, hpb⟩ : ∃ x, placeN lots b = x := ⟨_, rfl⟩
            rw [hpx, hpb] at HPY HPN
            have PX : Hid (∀ w', Below w.heap.size w w' → Calls Try.prog 33 #[.slice p4 nl c4, .int .i64 y] w' fun e w'' => e = .returned (.int .i64 px) ∧ w' = w'') := Lib.hid (fun w' hb => by rw [← hpx]; exact PL.out w' hb y)
            have PB : Hid (∀ w', Below w.heap.size w w' → Calls Try.prog 33 #[.slice p4 nl c4, .int .i64 b] w' fun e w'' => e = .returned (.int .i64 pb) ∧ w' = w'') := Lib.hid (fun w' hb => by rw [← hpb]; exact PL.out w' hb b)
            clear hy hpx hpb
            by_cases hpp : pb < px
            · have hpz : (pb : Int) < (px : Int) := by omega
              cases least
              · have HR2 : Hid (b = pickS lots false (l.take (i + 1))) := Lib.hid (HPN.out (by simp [hpp]))
                clear hpp
                go_wp2_with (first | (go_at_call 33; ((with_reducible refine (PX.out _ hbelq).mono ?_); rintro e w3 ⟨rfl, rfl⟩)) | (go_at_call 33; ((with_reducible refine (PB.out _ hbelq).mono ?_); rintro e w3 ⟨rfl, rfl⟩)))
                go_roundw
                case rel => exact ⟨i + 1, b, by omega, by omega, by go_num, rfl, hbq, HR2⟩
                case measure => simp [intOf] <;> omega
              · have HR2 : Hid (y = pickS lots true (l.take (i + 1))) := Lib.hid (HPY.out (by simp [hpp]))
                clear hpp
                go_wp2_with (first | (go_at_call 33; ((with_reducible refine (PX.out _ hbelq).mono ?_); rintro e w3 ⟨rfl, rfl⟩)) | (go_at_call 33; ((with_reducible refine (PB.out _ hbelq).mono ?_); rintro e w3 ⟨rfl, rfl⟩)))
                go_roundw
                case rel => exact ⟨i + 1, y, by omega, by omega, by go_num, rfl, hbq, HR2⟩
                case measure => simp [intOf] <;> omega
            · have hpz : ¬ (pb : Int) < (px : Int) := by omega
              have hpd : decide (pb < px) = false := by simp only [decide_eq_false_iff_not]; exact hpp
              cases least
              · have HR2 : Hid (y = pickS lots false (l.take (i + 1))) := Lib.hid (HPY.out (by simp [hpp]))
                clear hpp
                go_wp2_with (first | (go_at_call 33; ((with_reducible refine (PX.out _ hbelq).mono ?_); rintro e w3 ⟨rfl, rfl⟩)) | (go_at_call 33; ((with_reducible refine (PB.out _ hbelq).mono ?_); rintro e w3 ⟨rfl, rfl⟩)))
                go_roundw
                case rel => exact ⟨i + 1, y, by omega, by omega, by go_num, rfl, hbq, HR2⟩
                case measure => simp [intOf] <;> omega
              · have HR2 : Hid (b = pickS lots true (l.take (i + 1))) := Lib.hid (HPN.out (by simp [hpp]))
                clear hpp
                go_wp2_with (first | (go_at_call 33; ((with_reducible refine (PX.out _ hbelq).mono ?_); rintro e w3 ⟨rfl, rfl⟩)) | (go_at_call 33; ((with_reducible refine (PB.out _ hbelq).mono ?_); rintro e w3 ⟨rfl, rfl⟩)))
                go_roundw
                case rel => exact ⟨i + 1, b, by omega, by omega, by go_num, rfl, hbq, HR2⟩
                case measure => simp [intOf] <;> omega
          · have hiz : ¬ (i : Int) < (m : Int) := by omega
            have HX2 : Hid (ra = b) := Lib.hid (by rw [HX.out.1, hB.out, List.take_of_length_le (by rw [HM.out]; omega)])
            go_wp2_with fail
            go_ret2
            exact ⟨ret_ib HX2.out.symm HX.out.2.symm, hbelq⟩

set_option maxRecDepth 100000 in
set_option maxHeartbeats 8000000 in
theorem rbreak_2 {ve vt vl : Value} {L : List (List Q)} {tied lots : List Int} {w : World} (hL : RoundsAt w ve L) (ht : IntsAt w vt tied) (hl : IntsAt w vl lots) (least : Bool) (hv : validS 2 tied lots = true) :
    Calls Try.prog 14 #[.int .i64 2, ve, vt, vl, .bool least] w fun e w' => e = .returned (.tuple #[.int .i64 (breakS 2 L tied lots least).1, .bool (breakS 2 L tied lots least).2]) ∧ Below w.heap.size w w' := by
  obtain ⟨⟨_, _, _, hl7⟩, hbl, htne, hbt, htp⟩ := (valid_eq _ _ _).1 hv
  have htlen := nodup_len _ _ hbt.2 hbt.1
  have hLm : L.length ≤ 9223372036854775807 := SliceOf.len hL
  have HL := Lib.hid hL
  have HT := Lib.hid ht
  have HLO := Lib.hid hl
  have HSUB : Hid (∀ x ∈ tied, x ∈ lots) := Lib.hid (fun x hx => bal_mem hbl (hbt.1 x hx).1 (hbt.1 x hx).2)
  have HRG : Hid (∀ x ∈ tied, 0 ≤ x ∧ x < 1000) := Lib.hid (fun x hx => by have := hbt.1 x hx; omega)
  have HND := Lib.hid hbt.2
  have HTNE := Lib.hid htne
  have h7 : lots.length ≤ 1000 := by omega
  have h71 : tied.length ≤ 1000 := by omega
  have TV : Hid (∀ w', Below w.heap.size w w' → Calls Try.prog 16 #[.int .i64 2, vt, vl] w' fun e w'' => e = .returned (.bool true) ∧ Below w'.heap.size w' w'') := Lib.hid (fun w' hb => by
    have := rtie_c (ht.keep hb) (hl.keep hb) 2
    rw [hv] at this
    exact this)
  have HBR := Lib.hid (fun l' h => break_of (L := L) (l := l') (least := least) hv h)
  obtain ⟨ra, hra⟩ : ∃ x, (breakS 2 L tied lots least).1 = x := ⟨_, rfl⟩
  obtain ⟨rb, hrb⟩ : ∃ x, (breakS 2 L tied lots least).2 = x := ⟨_, rfl⟩
  rw [hra, hrb] at HBR
  rw [hra, hrb]
  clear hra hrb hv hbl htne hbt htp hl7
  obtain ⟨p2, c2, rfl⟩ := hL.shp
  obtain ⟨p3, c3, rfl⟩ := ht.shape
  obtain ⟨p4, c4, rfl⟩ := hl.shape
  have PL : Hid (∀ w', Below w.heap.size w w' → ∀ x, Calls Try.prog 33 #[.slice p4 lots.length c4, .int .i64 x] w' fun e w'' => e = .returned (.int .i64 (placeN lots x : Nat)) ∧ w' = w'') := Lib.hid (fun w' hb x => place_c (hl.keep hb) x)
  obtain ⟨R, hR⟩ : ∃ R, roundsS 2 L = R := ⟨_, rfl⟩
  have HRR : Hid (R.length = L.length ∧ R = L) := Lib.hid (by rw [← hR]; exact ⟨rfl, rfl⟩)
  rw [hR] at HBR
  obtain ⟨n, hn⟩ : ∃ n, L.length = n := ⟨_, rfl⟩
  obtain ⟨nt, hnt⟩ : ∃ n, tied.length = n := ⟨_, rfl⟩
  obtain ⟨nl, hnl⟩ : ∃ n, lots.length = n := ⟨_, rfl⟩
  have HN := Lib.hid hn
  have HNL : Hid (lots.length ≤ 1000) := Lib.hid h7
  have HNT : Hid (tied.length ≤ 1000) := Lib.hid h71
  rw [hn] at hLm HL
  rw [hn]
  rw [hnt] at HT TV
  rw [hnl] at HLO TV PL
  rw [hnt, hnl]
  clear hL ht hl hR hn hnt hnl h7 h71 htlen
  go_enter Try.func14, Try.ntmps14
  go_wp2_with (go_at_call 16; ((with_reducible refine (TV.out _ (Below.refl _ _)).mono ?_); rintro e w1 ⟨rfl, hb1⟩))
  go_loopw [12, 13] (fun lv iv wr => ∃ k : Nat, ∃ l : List Int, k ≤ n ∧ iv = .int .i64 k ∧ IntsAt wr lv l ∧ Below w.heap.size w wr ∧ Hid (l ≠ [] ∧ l.Sublist tied ∧ leftS least R tied = leftS least (R.drop k) l)) (fun _ iv _ => n - (intOf iv).toNat)
  case atStart => exact ⟨0, tied, by omega, rfl, HT.out.keep hb1, hb1, Lib.hid ⟨HTNE.out, List.Sublist.refl _, rfl⟩⟩
  case round =>
    obtain ⟨k, l, hk, rfl, hI, hbel, hP⟩ := hrel
    obtain ⟨p1, c1, rfl⟩ := hI.shape
    obtain ⟨m, hm⟩ : ∃ n, l.length = n := ⟨_, rfl⟩
    have HM := Lib.hid hm
    have HI := Lib.hid hI
    rw [hm] at HI
    have hmle : m ≤ 1000 := by rw [← hm]; exact Nat.le_trans hP.out.2.1.length_le HNT.out
    have hm0 : 0 < m := by rw [← hm]; exact List.length_pos_iff.2 hP.out.1
    have hm0z : (0 : Int) < (m : Int) := by omega
    rw [hm]
    clear hI hm
    by_cases hkn : k < n
    · have hkz : (k : Int) < (n : Int) := by omega
      by_cases hm1 : 1 < m
      · have hmz : (1 : Int) < (m : Int) := by omega
        obtain ⟨v, hv⟩ : ∃ v, L.getD k [] = v := ⟨_, rfl⟩
        obtain ⟨bb, off, u, hp0, hcc, hcm, hcell, hrow⟩ := (HL.out.keep hbel).cellAt (k := k) (by rw [HN.out]; omega) hv
        subst hp0
        have HRK : Hid (R.getD k [] = v) := Lib.hid (by rw [← hv]; rw [HRR.out.2])
        have HST := Lib.hid (lround_step (by rw [HRR.out.1, HN.out]; exact hkn) HRK.out hP.out.2.2 (by rw [HM.out]; exact hm1))
        have HNE : Hid (extA (ltV v least) l ≠ []) := Lib.hid (extA_ne' (ltV_swo hrow.shs least) hP.out.1)
        have HS2 : Hid ((extA (ltV v least) l).Sublist tied) := Lib.hid (extA_sub.trans hP.out.2.1)
        have EX := Lib.hid (extreme_c hrow HI.out (fun x hx => HRG.out x (hP.out.2.1.subset hx)) (by rw [HM.out]; omega) least)
        obtain ⟨pr, nr, cr, rfl⟩ := hrow.sl
        clear hv hrow
        go_wp2_with (go_at_call 32; ((with_reducible refine EX.out.mono ?_); rintro e w5 ⟨v5, rfl, hi5, hb5⟩; have hB5 := bel2' hbel hb5))
        go_roundw
        case rel => exact ⟨k + 1, _, by omega, by go_num, hi5, hB5, Lib.hid ⟨HNE.out, HS2.out, HST.out⟩⟩
        case measure => simp [intOf] <;> omega
      · have hmz : ¬ (1 : Int) < (m : Int) := by omega
        have HST := Lib.hid (lround_skip (least := least) (by rw [HRR.out.1, HN.out]; exact hkn) hP.out.2.2 (by rw [HM.out]; exact hm1))
        go_wp2_with fail
        go_roundw
        case rel => exact ⟨k + 1, _, by omega, by go_num, HI.out, hbel, Lib.hid ⟨hP.out.1, hP.out.2.1, HST.out⟩⟩
        case measure => simp [intOf] <;> omega
    · have hkz : ¬ (k : Int) < (n : Int) := by omega
      have HE : Hid (leftS least R tied = l) := Lib.hid (lround_end (.inl (by rw [HRR.out.1, HN.out]; exact hkn)) hP.out.2.2)
      have hBR := HBR.out l HE.out
      rw [HM.out] at hBR
      obtain ⟨bb, off, hp0, _, _, hcell⟩ := HI.out.cellAt 0 (by rw [HM.out]; omega)
      subst hp0
      have hcell : wr.cell? ⟨bb, off, none⟩ = some (.int .i64 (l.getD 0 0)) := hcell
      obtain ⟨x, hx⟩ : ∃ x, l.getD 0 0 = x := ⟨_, rfl⟩
      by_cases hm1 : m = 1
      · subst hm1
        have HX : Hid (ra = l.getD 0 0 ∧ rb = false) := Lib.hid (by rw [← head_getD HM.out]; exact hBR.1 rfl)
        rw [hx] at hcell HX
        clear hBR hx
        go_wp2_with fail
        go_ret2
        exact ⟨ret_ib HX.out.1.symm HX.out.2.symm, hbel⟩
      · have hmz : ((m : Int) == 1) = false := by rw [beq_eq_false_iff_ne]; omega
        have HX : Hid (ra = pickS lots least l ∧ rb = true) := Lib.hid (hBR.2 hm1)
        have H0 : Hid (x = pickS lots least (l.take 1)) := Lib.hid (by rw [← hx]; exact pick_one hP.out.1)
        rw [hx] at hcell
        clear hBR hx
        obtain ⟨wo, rfl⟩ : ∃ x, x = wr := ⟨_, rfl⟩
        go_wp2_with fail
        go_loopw [15, 16] (fun bv iv wq => ∃ i : Nat, ∃ b : Int, 1 ≤ i ∧ i ≤ m ∧ iv = .int .i64 i ∧ bv = .int .i64 b ∧ Below wo.heap.size wo wq ∧ Hid (b = pickS lots least (l.take i))) (fun _ iv _ => m - (intOf iv).toNat)
        case atStart => exact ⟨1, x, by omega, by omega, rfl, rfl, Below.refl _ _, H0⟩
        case round =>
          obtain ⟨i, b, hi1, him, rfl, rfl, hbq, hB⟩ := hrel
          have hbelq := bel2' hbel hbq
          by_cases hil : i < m
          · have hiz : (i : Int) < (m : Int) := by omega
            obtain ⟨bb2, off2, hp2, _, _, hcelli⟩ := (HI.out.keep hbq).cellAt i (by rw [HM.out]; exact hil)
            simp only [Option.some.injEq, Addr.mk.injEq, and_true] at hp2
            obtain ⟨rfl, rfl⟩ := hp2
            obtain ⟨y, hy⟩ : ∃ y, l.getD i 0 = y := ⟨_, rfl⟩
            have HS := Lib.hid (pick_take (lots := lots) (least := least) (l := l) (k := i) (by omega) (by rw [HM.out]; exact hil) hy)
            rw [hy] at hcelli
            rw [← hB.out] at HS
            have HPY := Lib.hid (@pick_yes lots least b y _ · HS.out)
            have HPN := Lib.hid (@pick_no lots least b y _ · HS.out)
            obtain ⟨px, hpx⟩ : ∃ x, placeN lots y = x := ⟨_, rfl⟩
            obtain ⟨pb, hpb⟩ : ∃ x, placeN lots b = x := ⟨_, rfl⟩
            rw [hpx, hpb] at HPY HPN
            have PX : Hid (∀ w', Below w.heap.size w w' → Calls Try.prog 33 #[.slice p4 nl c4, .int .i64 y] w' fun e w'' => e = .returned (.int .i64 px) ∧ w' = w'') := Lib.hid (fun w' hb => by rw [← hpx]; exact PL.out w' hb y)
            have PB : Hid (∀ w', Below w.heap.size w w' → Calls Try.prog 33 #[.slice p4 nl c4, .int .i64 b] w' fun e w'' => e = .returned (.int .i64 pb) ∧ w' = w'') := Lib.hid (fun w' hb => by rw [← hpb]; exact PL.out w' hb b)
            clear hy hpx hpb
            by_cases hpp : pb < px
            · have hpz : (pb : Int) < (px : Int) := by omega
              cases least
              · have HR2 : Hid (b = pickS lots false (l.take (i + 1))) := Lib.hid (HPN.out (by simp [hpp]))
                clear hpp
                go_wp2_with (first | (go_at_call 33; ((with_reducible refine (PX.out _ hbelq).mono ?_); rintro e w3 ⟨rfl, rfl⟩)) | (go_at_call 33; ((with_reducible refine (PB.out _ hbelq).mono ?_); rintro e w3 ⟨rfl, rfl⟩)))
                go_roundw
                case rel => exact ⟨i + 1, b, by omega, by omega, by go_num, rfl, hbq, HR2⟩
                case measure => simp [intOf] <;> omega
              · have HR2 : Hid (y = pickS lots true (l.take (i + 1))) := Lib.hid (HPY.out (by simp [hpp]))
                clear hpp
                go_wp2_with (first | (go_at_call 33; ((with_reducible refine (PX.out _ hbelq).mono ?_); rintro e w3 ⟨rfl, rfl⟩)) | (go_at_call 33; ((with_reducible refine (PB.out _ hbelq).mono ?_); rintro e w3 ⟨rfl, rfl⟩)))
                go_roundw
                case rel => exact ⟨i + 1, y, by omega, by omega, by go_num, rfl, hbq, HR2⟩
                case measure => simp [intOf] <;> omega
            · have hpz : ¬ (pb : Int) < (px : Int) := by omega
              have hpd : decide (pb < px) = false := by simp only [decide_eq_false_iff_not]; exact hpp
              cases least
              · have HR2 : Hid (y = pickS lots false (l.take (i + 1))) := Lib.hid (HPY.out (by simp [hpp]))
                clear hpp
                go_wp2_with (first | (go_at_call 33; ((with_reducible refine (PX.out _ hbelq).mono ?_); rintro e w3 ⟨rfl, rfl⟩)) | (go_at_call 33; ((with_reducible refine (PB.out _ hbelq).mono ?_); rintro e w3 ⟨rfl, rfl⟩)))
                go_roundw
                case rel => exact ⟨i + 1, y, by omega, by omega, by go_num, rfl, hbq, HR2⟩
                case measure => simp [intOf] <;> omega
              · have HR2 : Hid (b = pickS lots true (l.take (i + 1))) := Lib.hid (HPN.out (by simp [hpp]))
                clear hpp
                go_wp2_with (first | (go_at_call 33; ((with_reducible refine (PX.out _ hbelq).mono ?_); rintro e w3 ⟨rfl, rfl⟩)) | (go_at_call 33; ((with_reducible refine (PB.out _ hbelq).mono ?_); rintro e w3 ⟨rfl, rfl⟩)))
                go_roundw
                case rel => exact ⟨i + 1, b, by omega, by omega, by go_num, rfl, hbq, HR2⟩
                case measure => simp [intOf] <;> omega
          · have hiz : ¬ (i : Int) < (m : Int) := by omega
            have HX2 : Hid (ra = b) := Lib.hid (by rw [HX.out.1, hB.out, List.take_of_length_le (by rw [HM.out]; omega)])
            go_wp2_with fail
            go_ret2
            exact ⟨ret_ib HX2.out.symm HX.out.2.symm, hbelq⟩

set_option maxRecDepth 100000 in
set_option maxHeartbeats 8000000 in
theorem rbreak_3 {ve vt vl : Value} {L : List (List Q)} {tied lots : List Int} {w : World} (hL : RoundsAt w ve L) (ht : IntsAt w vt tied) (hl : IntsAt w vl lots) (least : Bool) (hv : validS 3 tied lots = true) :
    Calls Try.prog 14 #[.int .i64 3, ve, vt, vl, .bool least] w fun e w' => e = .returned (.tuple #[.int .i64 (breakS 3 L tied lots least).1, .bool (breakS 3 L tied lots least).2]) ∧ Below w.heap.size w w' := by
  obtain ⟨⟨_, _, _, hl7⟩, hbl, htne, hbt, htp⟩ := (valid_eq _ _ _).1 hv
  have htlen := nodup_len _ _ hbt.2 hbt.1
  have hLm : L.length ≤ 9223372036854775807 := SliceOf.len hL
  have HL := Lib.hid hL
  have HT := Lib.hid ht
  have HLO := Lib.hid hl
  have HSUB : Hid (∀ x ∈ tied, x ∈ lots) := Lib.hid (fun x hx => bal_mem hbl (hbt.1 x hx).1 (hbt.1 x hx).2)
  have HRG : Hid (∀ x ∈ tied, 0 ≤ x ∧ x < 1000) := Lib.hid (fun x hx => by have := hbt.1 x hx; omega)
  have HND := Lib.hid hbt.2
  have HTNE := Lib.hid htne
  have h7 : lots.length ≤ 1000 := by omega
  have h71 : tied.length ≤ 1000 := by omega
  have TV : Hid (∀ w', Below w.heap.size w w' → Calls Try.prog 16 #[.int .i64 3, vt, vl] w' fun e w'' => e = .returned (.bool true) ∧ Below w'.heap.size w' w'') := Lib.hid (fun w' hb => by
    have := rtie_c (ht.keep hb) (hl.keep hb) 3
    rw [hv] at this
    exact this)
  have HBR := Lib.hid (fun l' h => break_of (L := L) (l := l') (least := least) hv h)
  obtain ⟨ra, hra⟩ : ∃ x, (breakS 3 L tied lots least).1 = x := ⟨_, rfl⟩
  obtain ⟨rb, hrb⟩ : ∃ x, (breakS 3 L tied lots least).2 = x := ⟨_, rfl⟩
  rw [hra, hrb] at HBR
  rw [hra, hrb]
  clear hra hrb hv hbl htne hbt htp hl7
  obtain ⟨p2, c2, rfl⟩ := hL.shp
  obtain ⟨p3, c3, rfl⟩ := ht.shape
  obtain ⟨p4, c4, rfl⟩ := hl.shape
  have PL : Hid (∀ w', Below w.heap.size w w' → ∀ x, Calls Try.prog 33 #[.slice p4 lots.length c4, .int .i64 x] w' fun e w'' => e = .returned (.int .i64 (placeN lots x : Nat)) ∧ w' = w'') := Lib.hid (fun w' hb x => place_c (hl.keep hb) x)
  obtain ⟨R, hR⟩ : ∃ R, roundsS 3 L = R := ⟨_, rfl⟩
  have HRR : Hid (R = [] ∧ True) := Lib.hid (by rw [← hR]; exact ⟨rfl, trivial⟩)
  rw [hR] at HBR
  obtain ⟨n, hn⟩ : ∃ n, L.length = n := ⟨_, rfl⟩
  obtain ⟨nt, hnt⟩ : ∃ n, tied.length = n := ⟨_, rfl⟩
  obtain ⟨nl, hnl⟩ : ∃ n, lots.length = n := ⟨_, rfl⟩
  have HN := Lib.hid hn
  have HNL : Hid (lots.length ≤ 1000) := Lib.hid h7
  have HNT : Hid (tied.length ≤ 1000) := Lib.hid h71
  rw [hn] at hLm HL
  rw [hn]
  rw [hnt] at HT TV
  rw [hnl] at HLO TV PL
  rw [hnt, hnl]
  clear hL ht hl hR hn hnt hnl h7 h71 htlen
  go_enter Try.func14, Try.ntmps14
  go_wp2_with (go_at_call 16; ((with_reducible refine (TV.out _ (Below.refl _ _)).mono ?_); rintro e w1 ⟨rfl, hb1⟩))
  go_loopw [12, 13] (fun lv iv wr => ∃ k : Nat, ∃ l : List Int, k ≤ n ∧ iv = .int .i64 k ∧ IntsAt wr lv l ∧ Below w.heap.size w wr ∧ Hid (l ≠ [] ∧ l.Sublist tied ∧ leftS least R tied = leftS least (R.drop k) l)) (fun _ iv _ => n - (intOf iv).toNat)
  case atStart => exact ⟨0, tied, by omega, rfl, HT.out.keep hb1, hb1, Lib.hid ⟨HTNE.out, List.Sublist.refl _, rfl⟩⟩
  case round =>
    obtain ⟨k, l, hk, rfl, hI, hbel, hP⟩ := hrel
    obtain ⟨p1, c1, rfl⟩ := hI.shape
    obtain ⟨m, hm⟩ : ∃ n, l.length = n := ⟨_, rfl⟩
    have HM := Lib.hid hm
    have HI := Lib.hid hI
    rw [hm] at HI
    have hmle : m ≤ 1000 := by rw [← hm]; exact Nat.le_trans hP.out.2.1.length_le HNT.out
    have hm0 : 0 < m := by rw [← hm]; exact List.length_pos_iff.2 hP.out.1
    have hm0z : (0 : Int) < (m : Int) := by omega
    rw [hm]
    clear hI hm
    by_cases hkn : k < n
    · have hkz : (k : Int) < (n : Int) := by omega
      have HE : Hid (leftS least R tied = l) := Lib.hid (lround_end (.inl (by rw [HRR.out.1]; simp)) hP.out.2.2)
      have hBR := HBR.out l HE.out
      rw [HM.out] at hBR
      obtain ⟨bb, off, hp0, _, _, hcell⟩ := HI.out.cellAt 0 (by rw [HM.out]; omega)
      subst hp0
      have hcell : wr.cell? ⟨bb, off, none⟩ = some (.int .i64 (l.getD 0 0)) := hcell
      obtain ⟨x, hx⟩ : ∃ x, l.getD 0 0 = x := ⟨_, rfl⟩
      by_cases hm1 : m = 1
      · subst hm1
        have HX : Hid (ra = l.getD 0 0 ∧ rb = false) := Lib.hid (by rw [← head_getD HM.out]; exact hBR.1 rfl)
        rw [hx] at hcell HX
        clear hBR hx
        go_wp2_with fail
        go_ret2
        exact ⟨ret_ib HX.out.1.symm HX.out.2.symm, hbel⟩
      · have hmz : ((m : Int) == 1) = false := by rw [beq_eq_false_iff_ne]; omega
        have HX : Hid (ra = pickS lots least l ∧ rb = true) := Lib.hid (hBR.2 hm1)
        have H0 : Hid (x = pickS lots least (l.take 1)) := Lib.hid (by rw [← hx]; exact pick_one hP.out.1)
        rw [hx] at hcell
        clear hBR hx
        obtain ⟨wo, rfl⟩ : ∃ x, x = wr := ⟨_, rfl⟩
        go_wp2_with fail
        go_loopw [15, 16] (fun bv iv wq => ∃ i : Nat, ∃ b : Int, 1 ≤ i ∧ i ≤ m ∧ iv = .int .i64 i ∧ bv = .int .i64 b ∧ Below wo.heap.size wo wq ∧ Hid (b = pickS lots least (l.take i))) (fun _ iv _ => m - (intOf iv).toNat)
        case atStart => exact ⟨1, x, by omega, by omega, rfl, rfl, Below.refl _ _, H0⟩
        case round =>
          obtain ⟨i, b, hi1, him, rfl, rfl, hbq, hB⟩ := hrel
          have hbelq := bel2' hbel hbq
          by_cases hil : i < m
          · have hiz : (i : Int) < (m : Int) := by omega
            obtain ⟨bb2, off2, hp2, _, _, hcelli⟩ := (HI.out.keep hbq).cellAt i (by rw [HM.out]; exact hil)
            simp only [Option.some.injEq, Addr.mk.injEq, and_true] at hp2
            obtain ⟨rfl, rfl⟩ := hp2
            obtain ⟨y, hy⟩ : ∃ y, l.getD i 0 = y := ⟨_, rfl⟩
            have HS := Lib.hid (pick_take (lots := lots) (least := least) (l := l) (k := i) (by omega) (by rw [HM.out]; exact hil) hy)
            rw [hy] at hcelli
            rw [← hB.out] at HS
            have HPY := Lib.hid (@pick_yes lots least b y _ · HS.out)
            have HPN := Lib.hid (@pick_no lots least b y _ · HS.out)
            obtain ⟨px, hpx⟩ : ∃ x, placeN lots y = x := ⟨_, rfl⟩
            obtain ⟨pb, hpb⟩ : ∃ x, placeN lots b = x := ⟨_, rfl⟩
            rw [hpx, hpb] at HPY HPN
            have PX : Hid (∀ w', Below w.heap.size w w' → Calls Try.prog 33 #[.slice p4 nl c4, .int .i64 y] w' fun e w'' => e = .returned (.int .i64 px) ∧ w' = w'') := Lib.hid (fun w' hb => by rw [← hpx]; exact PL.out w' hb y)
            have PB : Hid (∀ w', Below w.heap.size w w' → Calls Try.prog 33 #[.slice p4 nl c4, .int .i64 b] w' fun e w'' => e = .returned (.int .i64 pb) ∧ w' = w'') := Lib.hid (fun w' hb => by rw [← hpb]; exact PL.out w' hb b)
            clear hy hpx hpb
            by_cases hpp : pb < px
            · have hpz : (pb : Int) < (px : Int) := by omega
              cases least
              · have HR2 : Hid (b = pickS lots false (l.take (i + 1))) := Lib.hid (HPN.out (by simp [hpp]))
                clear hpp
                go_wp2_with (first | (go_at_call 33; ((with_reducible refine (PX.out _ hbelq).mono ?_); rintro e w3 ⟨rfl, rfl⟩)) | (go_at_call 33; ((with_reducible refine (PB.out _ hbelq).mono ?_); rintro e w3 ⟨rfl, rfl⟩)))
                go_roundw
                case rel => exact ⟨i + 1, b, by omega, by omega, by go_num, rfl, hbq, HR2⟩
                case measure => simp [intOf] <;> omega
              · have HR2 : Hid (y = pickS lots true (l.take (i + 1))) := Lib.hid (HPY.out (by simp [hpp]))
                clear hpp
                go_wp2_with (first | (go_at_call 33; ((with_reducible refine (PX.out _ hbelq).mono ?_); rintro e w3 ⟨rfl, rfl⟩)) | (go_at_call 33; ((with_reducible refine (PB.out _ hbelq).mono ?_); rintro e w3 ⟨rfl, rfl⟩)))
                go_roundw
                case rel => exact ⟨i + 1, y, by omega, by omega, by go_num, rfl, hbq, HR2⟩
                case measure => simp [intOf] <;> omega
            · have hpz : ¬ (pb : Int) < (px : Int) := by omega
              have hpd : decide (pb < px) = false := by simp only [decide_eq_false_iff_not]; exact hpp
              cases least
              · have HR2 : Hid (y = pickS lots false (l.take (i + 1))) := Lib.hid (HPY.out (by simp [hpp]))
                clear hpp
                go_wp2_with (first | (go_at_call 33; ((with_reducible refine (PX.out _ hbelq).mono ?_); rintro e w3 ⟨rfl, rfl⟩)) | (go_at_call 33; ((with_reducible refine (PB.out _ hbelq).mono ?_); rintro e w3 ⟨rfl, rfl⟩)))
                go_roundw
                case rel => exact ⟨i + 1, y, by omega, by omega, by go_num, rfl, hbq, HR2⟩
                case measure => simp [intOf] <;> omega
              · have HR2 : Hid (b = pickS lots true (l.take (i + 1))) := Lib.hid (HPN.out (by simp [hpp]))
                clear hpp
                go_wp2_with (first | (go_at_call 33; ((with_reducible refine (PX.out _ hbelq).mono ?_); rintro e w3 ⟨rfl, rfl⟩)) | (go_at_call 33; ((with_reducible refine (PB.out _ hbelq).mono ?_); rintro e w3 ⟨rfl, rfl⟩)))
                go_roundw
                case rel => exact ⟨i + 1, b, by omega, by omega, by go_num, rfl, hbq, HR2⟩
                case measure => simp [intOf] <;> omega
          · have hiz : ¬ (i : Int) < (m : Int) := by omega
            have HX2 : Hid (ra = b) := Lib.hid (by rw [HX.out.1, hB.out, List.take_of_length_le (by rw [HM.out]; omega)])
            go_wp2_with fail
            go_ret2
            exact ⟨ret_ib HX2.out.symm HX.out.2.symm, hbelq⟩
    · have hkz : ¬ (k : Int) < (n : Int) := by omega
      have HE : Hid (leftS least R tied = l) := Lib.hid (lround_end (.inl (by rw [HRR.out.1]; simp)) hP.out.2.2)
      have hBR := HBR.out l HE.out
      rw [HM.out] at hBR
      obtain ⟨bb, off, hp0, _, _, hcell⟩ := HI.out.cellAt 0 (by rw [HM.out]; omega)
      subst hp0
      have hcell : wr.cell? ⟨bb, off, none⟩ = some (.int .i64 (l.getD 0 0)) := hcell
      obtain ⟨x, hx⟩ : ∃ x, l.getD 0 0 = x := ⟨_, rfl⟩
      by_cases hm1 : m = 1
      · subst hm1
        have HX : Hid (ra = l.getD 0 0 ∧ rb = false) := Lib.hid (by rw [← head_getD HM.out]; exact hBR.1 rfl)
        rw [hx] at hcell HX
        clear hBR hx
        go_wp2_with fail
        go_ret2
        exact ⟨ret_ib HX.out.1.symm HX.out.2.symm, hbel⟩
      · have hmz : ((m : Int) == 1) = false := by rw [beq_eq_false_iff_ne]; omega
        have HX : Hid (ra = pickS lots least l ∧ rb = true) := Lib.hid (hBR.2 hm1)
        have H0 : Hid (x = pickS lots least (l.take 1)) := Lib.hid (by rw [← hx]; exact pick_one hP.out.1)
        rw [hx] at hcell
        clear hBR hx
        obtain ⟨wo, rfl⟩ : ∃ x, x = wr := ⟨_, rfl⟩
        go_wp2_with fail
        go_loopw [15, 16] (fun bv iv wq => ∃ i : Nat, ∃ b : Int, 1 ≤ i ∧ i ≤ m ∧ iv = .int .i64 i ∧ bv = .int .i64 b ∧ Below wo.heap.size wo wq ∧ Hid (b = pickS lots least (l.take i))) (fun _ iv _ => m - (intOf iv).toNat)
        case atStart => exact ⟨1, x, by omega, by omega, rfl, rfl, Below.refl _ _, H0⟩
        case round =>
          obtain ⟨i, b, hi1, him, rfl, rfl, hbq, hB⟩ := hrel
          have hbelq := bel2' hbel hbq
          by_cases hil : i < m
          · have hiz : (i : Int) < (m : Int) := by omega
            obtain ⟨bb2, off2, hp2, _, _, hcelli⟩ := (HI.out.keep hbq).cellAt i (by rw [HM.out]; exact hil)
            simp only [Option.some.injEq, Addr.mk.injEq, and_true] at hp2
            obtain ⟨rfl, rfl⟩ := hp2
            obtain ⟨y, hy⟩ : ∃ y, l.getD i 0 = y := ⟨_, rfl⟩
            have HS := Lib.hid (pick_take (lots := lots) (least := least) (l := l) (k := i) (by omega) (by rw [HM.out]; exact hil) hy)
            rw [hy] at hcelli
            rw [← hB.out] at HS
            have HPY := Lib.hid (@pick_yes lots least b y _ · HS.out)
            have HPN := Lib.hid (@pick_no lots least b y _ · HS.out)
            obtain ⟨px, hpx⟩ : ∃ x, placeN lots y = x := ⟨_, rfl⟩
            obtain ⟨pb, hpb⟩ : ∃ x, placeN lots b = x := ⟨_, rfl⟩
            rw [hpx, hpb] at HPY HPN
            have PX : Hid (∀ w', Below w.heap.size w w' → Calls Try.prog 33 #[.slice p4 nl c4, .int .i64 y] w' fun e w'' => e = .returned (.int .i64 px) ∧ w' = w'') := Lib.hid (fun w' hb => by rw [← hpx]; exact PL.out w' hb y)
            have PB : Hid (∀ w', Below w.heap.size w w' → Calls Try.prog 33 #[.slice p4 nl c4, .int .i64 b] w' fun e w'' => e = .returned (.int .i64 pb) ∧ w' = w'') := Lib.hid (fun w' hb => by rw [← hpb]; exact PL.out w' hb b)
            clear hy hpx hpb
            by_cases hpp : pb < px
            · have hpz : (pb : Int) < (px : Int) := by omega
              cases least
              · have HR2 : Hid (b = pickS lots false (l.take (i + 1))) := Lib.hid (HPN.out (by simp [hpp]))
                clear hpp
                go_wp2_with (first | (go_at_call 33; ((with_reducible refine (PX.out _ hbelq).mono ?_); rintro e w3 ⟨rfl, rfl⟩)) | (go_at_call 33; ((with_reducible refine (PB.out _ hbelq).mono ?_); rintro e w3 ⟨rfl, rfl⟩)))
                go_roundw
                case rel => exact ⟨i + 1, b, by omega, by omega, by go_num, rfl, hbq, HR2⟩
                case measure => simp [intOf] <;> omega
              · have HR2 : Hid (y = pickS lots true (l.take (i + 1))) := Lib.hid (HPY.out (by simp [hpp]))
                clear hpp
                go_wp2_with (first | (go_at_call 33; ((with_reducible refine (PX.out _ hbelq).mono ?_); rintro e w3 ⟨rfl, rfl⟩)) | (go_at_call 33; ((with_reducible refine (PB.out _ hbelq).mono ?_); rintro e w3 ⟨rfl, rfl⟩)))
                go_roundw
                case rel => exact ⟨i + 1, y, by omega, by omega, by go_num, rfl, hbq, HR2⟩
                case measure => simp [intOf] <;> omega
            · have hpz : ¬ (pb : Int) < (px : Int) := by omega
              have hpd : decide (pb < px) = false := by simp only [decide_eq_false_iff_not]; exact hpp
              cases least
              · have HR2 : Hid (y = pickS lots false (l.take (i + 1))) := Lib.hid (HPY.out (by simp [hpp]))
                clear hpp
                go_wp2_with (first | (go_at_call 33; ((with_reducible refine (PX.out _ hbelq).mono ?_); rintro e w3 ⟨rfl, rfl⟩)) | (go_at_call 33; ((with_reducible refine (PB.out _ hbelq).mono ?_); rintro e w3 ⟨rfl, rfl⟩)))
                go_roundw
                case rel => exact ⟨i + 1, y, by omega, by omega, by go_num, rfl, hbq, HR2⟩
                case measure => simp [intOf] <;> omega
              · have HR2 : Hid (b = pickS lots true (l.take (i + 1))) := Lib.hid (HPN.out (by simp [hpp]))
                clear hpp
                go_wp2_with (first | (go_at_call 33; ((with_reducible refine (PX.out _ hbelq).mono ?_); rintro e w3 ⟨rfl, rfl⟩)) | (go_at_call 33; ((with_reducible refine (PB.out _ hbelq).mono ?_); rintro e w3 ⟨rfl, rfl⟩)))
                go_roundw
                case rel => exact ⟨i + 1, b, by omega, by omega, by go_num, rfl, hbq, HR2⟩
                case measure => simp [intOf] <;> omega
          · have hiz : ¬ (i : Int) < (m : Int) := by omega
            have HX2 : Hid (ra = b) := Lib.hid (by rw [HX.out.1, hB.out, List.take_of_length_le (by rw [HM.out]; omega)])
            go_wp2_with fail
            go_ret2
            exact ⟨ret_ib HX2.out.symm HX.out.2.symm, hbelq⟩

set_option maxHeartbeats 2000000 in
theorem rbreak_c {ve vt vl : Value} {L : List (List Q)} {tied lots : List Int} {w : World} (hL : RoundsAt w ve L) (ht : IntsAt w vt tied) (hl : IntsAt w vl lots) (rule : Int) (least : Bool) :
    Calls Try.prog 14 #[.int .i64 rule, ve, vt, vl, .bool least] w fun e w' => e = .returned (.tuple #[.int .i64 (breakS rule L tied lots least).1, .bool (breakS rule L tied lots least).2]) ∧ Below w.heap.size w w' := by
  cases hv : validS rule tied lots
  · have TV : Hid (∀ w', Below w.heap.size w w' → Calls Try.prog 16 #[.int .i64 rule, vt, vl] w' fun e w'' => e = .returned (.bool false) ∧ Below w'.heap.size w' w'') := Lib.hid (fun w' hb => by
      have := rtie_c (ht.keep hb) (hl.keep hb) rule
      rw [hv] at this
      exact this)
    rw [break_no hv]
    obtain ⟨p2, c2, rfl⟩ := hL.shp
    obtain ⟨p3, c3, rfl⟩ := ht.shape
    obtain ⟨p4, c4, rfl⟩ := hl.shape
    obtain ⟨n, hn⟩ : ∃ n, L.length = n := ⟨_, rfl⟩
    obtain ⟨nt, hnt⟩ : ∃ n, tied.length = n := ⟨_, rfl⟩
    obtain ⟨nl, hnl⟩ : ∃ n, lots.length = n := ⟨_, rfl⟩
    rw [hnt, hnl] at TV
    rw [hn, hnt, hnl]
    clear hL ht hl hn hnt hnl hv
    go_enter Try.func14, Try.ntmps14
    go_wp2_with (go_at_call 16; ((with_reducible refine (TV.out _ (Below.refl _ _)).mono ?_); rintro e w1 ⟨rfl, hb1⟩))
    go_ret2
    exact ⟨rfl, hb1⟩
  · have h := (valid_eq _ _ _).1 hv
    rcases (by omega : rule = 1 ∨ rule = 2 ∨ rule = 3) with rfl | rfl | rfl
    · exact rbreak_1 hL ht hl least hv
    · exact rbreak_2 hL ht hl least hv
    · exact rbreak_3 hL ht hl least hv

end Go.Proofs.Ythplbhgbgcfogaa
