/- The reference's Print: its walk. -/
import Derived.Test.YthdcgplocdehjaaPf
namespace Go.Proofs.Ythdcgplocdehjaa
open Go.RowKit Go.Proofs.Kit

section
variable {α : Type} {ln : α → Int}
set_option maxRecDepth 100000 in
set_option maxHeartbeats 8000000 in
theorem rprint_c {s : SrcA α} (hf : SmS s) {u : Value} (w : World) (hu : SliceOf (blkRA ln) 4 w u s.2) :
    Calls Try.prog 15 #[.agg #[strV s.1, u]] w fun e w' => e = .returned (.tuple #[.string ⟨(printL s).1.toArray⟩, .bool (printL s).2]) ∧ Below w.heap.size w w' := by
  obtain ⟨K, hK⟩ : ∃ K : ByteArray, (⟨s.1.toArray⟩ : ByteArray) = K := ⟨_, rfl⟩
  have hKd : K.data.toList = s.1 := by rw [← hK]
  have hKs : K.size ≤ 1000 := by rw [Lib.size_eq, hKd]; exact hf.1
  obtain ⟨p, cap, eu, hc1, hc2⟩ := hu.shape
  obtain ⟨n, hnn⟩ : ∃ n, s.2.length = n := ⟨_, rfl⟩
  have HN := Lib.hid hnn
  have hn := hf.2.1
  rw [hnn] at eu hc1 hn
  subst eu
  have hBd : Below w.heap.size w (w.alloc (.cells #[.string K, .slice p n cap] 24)) := (Below.refl _ _).alloc (Nat.le_refl _) _
  have R0 := Lib.hid (Bk.new w #[.string K, .slice p n cap] 24)
  have QK := Lib.hid (fun w => rquote_any K w (by omega))
  rw [hKd] at QK
  rw [show strV s.1 = .string K by unfold strV; rw [hK]]
  obtain ⟨Q, hQ⟩ : ∃ Q : ByteArray, (⟨(quoteL s.1).1.toArray⟩ : ByteArray) = Q := ⟨_, rfl⟩
  obtain ⟨qb, hqb⟩ : ∃ x, (quoteL s.1).2 = x := ⟨_, rfl⟩
  have hQs : Q.size ≤ 2002 := by rw [← hQ, size_mk]; have := quoteL_len s.1; have := hf.1; omega
  have HQD : Hid (Q.data.toList = (quoteL s.1).1) := Lib.hid (by rw [← hQ])
  have hqb2 := hqb
  rw [quoteL_ok] at hqb2
  have HS0 : Hid (InS s 0 qb (preL s 0)) := Lib.hid ⟨fun h => ⟨by rw [hqb2, h], rfl, rfl⟩, fun h => .inl (by unfold srcOk; rw [hqb2, h]; rfl)⟩
  rw [hQ, hqb] at QK
  obtain ⟨A, hA⟩ : ∃ A : ByteArray, (⟨(printL s).1.toArray⟩ : ByteArray) = A := ⟨_, rfl⟩
  obtain ⟨okF, hok⟩ : ∃ x, (printL s).2 = x := ⟨_, rfl⟩
  rw [hA, hok]
  have HNO : Hid (Bad s → ⟨#[]⟩ = A ∧ false = okF) := Lib.hid (fun h => by rw [← hA, ← hok, h.no]; exact ⟨rfl, rfl⟩)
  have HYES : Hid (srcOk s = true → (if (srcL s).length ≤ 20000 then (⟨(srcL s).toArray⟩ : ByteArray) = A ∧ true = okF else ⟨#[]⟩ = A ∧ false = okF)) := Lib.hid (fun h => by
    rw [← hA, ← hok]
    unfold printL
    rw [h]
    by_cases hl : (srcL s).length ≤ 20000
    · rw [if_pos hl]; simp [hl]
    · rw [if_neg hl]; simp [hl])
  obtain ⟨c0, c1⟩ := R0.out.two
  have HU := Lib.hid (hu.keep hBd fun c x => blkRA_keep hBd)
  clear hK hKd hQ hqb hqb2 hA hok hu hnn
  obtain ⟨X0, hX⟩ : ∃ X, w.alloc (.cells #[.string K, .slice p n cap] 24) = X := ⟨_, rfl⟩
  rw [hX] at hBd R0 c0 c1 HU
  have HX := Lib.hid hX
  have hs0 := R0.out.1
  clear hX
  go_enter Try.func15, Try.ntmps15
  go_upto_region 1 with fail
  rw [HX.out]
  go_wp2_with (go_at_call 27; ((with_reducible refine (QK.out _).mono ?_); rintro e w1 ⟨rfl, rfl⟩))
  go_loopw [5, 6, 7] (fun o t i wr => ∃ k : Nat, ∃ T : ByteArray, ∃ ok : Bool, o = .bool ok ∧ t = .string T ∧ i = .int .i64 k ∧ k ≤ n ∧ T.size ≤ 3000 + k * 4000000000 ∧ Below X0.heap.size X0 wr ∧ Hid (InS s k ok T.data.toList)) (fun _ _ i _ => n - (intOf i).toNat)
  case atStart => exact ⟨0, _, qb, rfl, rfl, rfl, Nat.zero_le _, by rw [size_cat, size_cat, show (⟨#[101, 108, 101, 99, 116, 105, 111, 110, 32]⟩ : ByteArray).size = 9 from rfl, show (⟨#[32, 123, 10]⟩ : ByteArray).size = 3 from rfl]; omega, Below.refl _ _, Lib.hid (by
    have e : ((⟨#[101, 108, 101, 99, 116, 105, 111, 110, 32]⟩ : ByteArray) ++ Q ++ (⟨#[32, 123, 10]⟩ : ByteArray)).data.toList = preL s 0 := by
      simp only [data_app', HQD.out]
      unfold preL
      simp
    rw [e]; exact HS0.out)⟩
  case round =>
    obtain ⟨k, T, ok, rfl, rfl, rfl, hk, hTs, hbr, hIn⟩ := hrel
    have hbr0 := bel3 hBd hbr
    have d0 := cell_keep hbr c0
    have d1 := cell_keep hbr c1
    by_cases hlt : k < n
    · cases ok
      · have hbad := Lib.hid (HNO.out (hIn.out.2 rfl))
        go_wp2_with fail
        go_ret2
        exact ⟨ret_sbb hbad.out.1 hbad.out.2, hbr0⟩
      · have hkl : k < s.2.length := by rw [HN.out]; exact hlt
        obtain ⟨g, off, cap', c, eb, hx1, hx2, hx3, hR, hcell⟩ := SliceOf.at_ (by omega) (HU.out.keep hbr fun c x => blkRA_keep hbr) hkl
        injection eb with eb1 eb2 eb3
        subst eb1
        subst eb3
        clear eb2 hx1 hx2
        obtain ⟨b, hbd⟩ : ∃ b, s.2[k] = b := ⟨_, rfl⟩
        rw [hbd] at hR
        have HBD : Hid (∃ h : k < s.2.length, s.2[k] = b) := Lib.hid ⟨hkl, hbd⟩
        obtain ⟨u', rfl, hrow⟩ := hR
        have hsb : SmB b := by rw [← hbd]; exact hf.2.2 _ (List.getElem_mem hkl)
        have HE := Lib.hid (hIn.out.1 rfl).2.1
        obtain ⟨KB, hKB⟩ : ∃ S : ByteArray, (⟨b.1.toArray⟩ : ByteArray) = S := ⟨_, rfl⟩
        have eKB : strV b.1 = .string KB := by unfold strV; rw [hKB]
        have hKBd : KB.data.toList = b.1 := by rw [← hKB]
        have hKBs : KB.size ≤ 1000 := by rw [Lib.size_eq, hKBd]; exact hsb.1
        obtain ⟨NB, hNB⟩ : ∃ S : ByteArray, (⟨b.2.1.toArray⟩ : ByteArray) = S := ⟨_, rfl⟩
        have eNB : strV b.2.1 = .string NB := by unfold strV; rw [hNB]
        have hNBd : NB.data.toList = b.2.1 := by rw [← hNB]
        have hNBs : NB.size ≤ 1000 := by rw [Lib.size_eq, hNBd]; exact hsb.2.1
        obtain ⟨p', cap2, eu2, hy1, hy2⟩ := hrow.shape
        obtain ⟨lf, hlf⟩ : ∃ x, ln b.2.2.2 = x := ⟨_, rfl⟩
        obtain ⟨m', hm'⟩ : ∃ m, b.2.2.1.length = m := ⟨_, rfl⟩
        have HM := Lib.hid hm'
        have hmle : m' ≤ 1000 := by rw [← hm']; exact hsb.2.2.1
        rw [hm'] at eu2 hy1
        subst eu2
        rw [eKB, eNB, hlf] at hcell
        have g0 : wr.cell? ⟨g, off + k * 4, none⟩ = some (.string KB) := hcell 0 _ rfl
        have g1 : wr.cell? ⟨g, off + k * 4 + 1, none⟩ = some (.string NB) := hcell 1 _ rfl
        have g2 : wr.cell? ⟨g, off + k * 4 + 2, none⟩ = some (.slice p' m' cap2) := hcell 2 _ rfl
        have g3 : wr.cell? ⟨g, off + k * 4 + 3, none⟩ = some (.int .i64 lf) := hcell 3 _ rfl
        have hbX : Below wr.heap.size wr (wr.alloc (.cells #[.string KB, .string NB, .slice p' m' cap2, .int .i64 lf] 39)) := (Below.refl _ _).alloc (Nat.le_refl _) _
        have HROW := Lib.hid (hrow.keep hbX fun c x => fldRA_keep hbX)
        have N5 := Lib.hid (Bk.new wr #[.string KB, .string NB, .slice p' m' cap2, .int .i64 lf] 39)
        have hbA := hbr.alloc hbr.size (.cells #[.string KB, .string NB, .slice p' m' cap2, .int .i64 lf] 39)
        have WK := Lib.hid (fun w => rword_any KB w (by unfold maxLen; omega))
        have WN := Lib.hid (fun w => rword_any NB w (by unfold maxLen; omega))
        rw [hKBd] at WK
        rw [hNBd] at WN
        obtain ⟨wk, hwk⟩ : ∃ x, wordB b.1 = x := ⟨_, rfl⟩
        obtain ⟨wn, hwn⟩ : ∃ x, wordB b.2.1 = x := ⟨_, rfl⟩
        rw [hwk] at WK
        rw [hwn] at WN
        have HHO : Hid (headOk b = (wk && (b.2.1.isEmpty || wn))) := Lib.hid (by unfold headOk; rw [hwk, hwn])
        have HNE : Hid ((b.2.1 = [] → NB.toList = [] ∧ NB.toList.isEmpty = true ∧ b.2.1.isEmpty = true) ∧ (b.2.1 ≠ [] → NB.toList ≠ [] ∧ NB.toList.isEmpty = false ∧ b.2.1.isEmpty = false)) := Lib.hid (by
          have e : NB.toList = b.2.1 := by rw [← hNB, Lib.toList_data]
          rw [e]
          exact ⟨fun h => ⟨h, by rw [h]; rfl, by rw [h]; rfl⟩, fun h => by
            have h2 : b.2.1.isEmpty = false := by rw [Bool.eq_false_iff]; intro hh; exact h (List.isEmpty_iff.1 hh)
            exact ⟨h, h2, h2⟩⟩)
        have HKB := Lib.hid hKBd
        have HNB := Lib.hid hNBd
        clear hbd hkl hKB eKB hKBd hNB eNB hNBd hlf hm' hcell hrow hwk hwn
        obtain ⟨wo, rfl⟩ : ∃ x, x = wr := ⟨_, rfl⟩
        go_upto_region 7 with fail
        obtain ⟨X, hX⟩ : ∃ X, wo.alloc (.cells #[.string KB, .string NB, .slice p' m' cap2, .int .i64 lf] 39) = X := ⟨_, rfl⟩
        rw [hX] at hbX HROW N5 hbA ⊢
        obtain ⟨n0, n1, n2, n3⟩ := N5.out.four
        clear hX
        go_cut [5] (fun s5 wx => s5 = .bool (headOk b) ∧ wx = X)
        case first =>
          cases wk
          · go_wp2_with (go_at_call 28; ((with_reducible refine (WK.out _).mono ?_); rintro e w3 ⟨rfl, rfl⟩))
            go_meet
            exact ⟨by rw [HHO.out]; rfl, rfl⟩
          · by_cases hE : b.2.1 = []
            · obtain ⟨e1, e2, e3⟩ := HNE.out.1 hE
              clear hE
              go_wp2_with (go_at_call 28; ((with_reducible refine (WK.out _).mono ?_); rintro e w3 ⟨rfl, rfl⟩))
              go_meet
              exact ⟨by rw [HHO.out, e3]; rfl, rfl⟩
            · obtain ⟨e1, e2, e3⟩ := HNE.out.2 hE
              clear hE
              go_wp2_with (first
                | (go_at_call 28; ((with_reducible refine (WK.out _).mono ?_); rintro e w3 ⟨rfl, rfl⟩))
                | (go_at_call 28; ((with_reducible refine (WN.out _).mono ?_); rintro e w3 ⟨rfl, rfl⟩)))
              go_meet
              exact ⟨by rw [HHO.out, e3]; rfl, rfl⟩
        case rest =>
        obtain ⟨rfl, rfl⟩ := hcut
        obtain ⟨ho, hho⟩ : ∃ x, headOk b = x := ⟨_, rfl⟩
        rw [hho]
        have HHD := Lib.hid hho
        clear hho
        go_upto_if 56 with fail
        go_cut [6] (fun s6 wx => ∃ S : ByteArray, s6 = .string S ∧ wx = wc ∧ S.size ≤ T.size + 2003 ∧ Hid ((S ++ (⟨#[32, 123, 10]⟩ : ByteArray)).data.toList = T.data.toList ++ headL b))
        case first =>
          by_cases hE : b.2.1 = []
          · obtain ⟨e1, e2, e3⟩ := HNE.out.1 hE
            rw [show (!NB.toList.isEmpty) = false by rw [e2]; rfl]
            clear hE
            go_wp2_with fail
            go_meet
            refine ⟨_, rfl, rfl, by rw [size_cat, size_cat, show (⟨#[32, 32]⟩ : ByteArray).size = 2 from rfl]; omega, Lib.hid ?_⟩
            simp only [data_app', HKB.out, headL, e3]
            simp
          · obtain ⟨e1, e2, e3⟩ := HNE.out.2 hE
            rw [show (!NB.toList.isEmpty) = true by rw [e2]; rfl]
            clear hE
            go_wp2_with fail
            go_meet
            refine ⟨_, rfl, rfl, by rw [size_cat, size_cat, size_cat, size_cat, show (⟨#[32, 32]⟩ : ByteArray).size = 2 from rfl, show (⟨#[32]⟩ : ByteArray).size = 1 from rfl]; omega, Lib.hid ?_⟩
            simp only [data_app', HKB.out, HNB.out, headL, e3]
            simp
        case rest =>
        obtain ⟨S0, rfl, rfl, hS0, HS0d⟩ := hcut
        have HI0 : Hid (InB s k b 0 ho (S0 ++ (⟨#[32, 123, 10]⟩ : ByteArray)).data.toList) := Lib.hid ⟨fun h => ⟨by rw [HHD.out, h], by rw [HS0d.out, HE.out]; simp, rfl⟩, fun h => Bad.block HBD.out.1 (by rw [HBD.out.2, blockOk_head, HHD.out, h]; rfl)⟩
        go_wp2_with fail
        go_loopw [5, 6, 9] (fun o t i wr => ∃ j : Nat, ∃ T2 : ByteArray, ∃ ok2 : Bool, o = .bool ok2 ∧ t = .string T2 ∧ i = .int .i64 j ∧ j ≤ m' ∧ T2.size ≤ T.size + 2006 + j * 3000000 ∧ Below wc.heap.size wc wr ∧ Hid (InB s k b j ok2 T2.data.toList)) (fun _ _ i _ => m' - (intOf i).toNat)
        case atStart => exact ⟨0, _, ho, rfl, rfl, rfl, Nat.zero_le _, by rw [size_cat, show (⟨#[32, 123, 10]⟩ : ByteArray).size = 3 from rfl]; omega, Below.refl _ _, Lib.hid HI0.out⟩
        case round =>
          obtain ⟨j, T2, ok2, rfl, rfl, rfl, hj0, hT2s, hbi, hInB⟩ := hrel
          have i2 := cell_keep hbi n2
          have hbX2 : Below wo.heap.size wo wr := hbX.trans (hbi.mono hbX.size)
          by_cases hj : j < m'
          · cases ok2
            · obtain ⟨ok2, hok2⟩ : ∃ x : Bool, x = false := ⟨_, rfl⟩
              have hIn2 : InS s k true (preL s k) := by have := hIn.out; rw [HE.out] at this; exact this
              have HD := Lib.hid (InB.done (ok := ok2) HBD.out.1 HBD.out.2 (T := T2.data.toList) (by rw [hok2]; exact (InB.out hInB.out b.2.2.1.length T2.data.toList)) hIn2)
              have hlen : (T2.data.toList ++ [32, 32, 125, 10]).length = T2.size + 4 := by rw [List.length_append, Lib.size_eq]; rfl
              have hTT : (T2 ++ (⟨#[32, 32, 125, 10]⟩ : ByteArray)).data.toList = T2.data.toList ++ [32, 32, 125, 10] := by rw [data_app']
              rw [hlen, ← hTT] at HD
              have HTZ : Hid ((T2 ++ (⟨#[32, 32, 125, 10]⟩ : ByteArray)).size = T2.size + 4) := Lib.hid (by rw [size_cat]; rfl)
              have hbig : T2.size + 4 ≤ 3000 + (k + 1) * 4000000000 := by have : j * 3000000 ≤ 1000 * 3000000 := Nat.mul_le_mul_right _ (by omega); omega
              clear hlen hTT hIn2
              by_cases hle : T2.size + 4 ≤ 20000
              · rw [decide_eq_true hle] at HD
                have t1 : decide ((T2.size : Int) + 4 ≤ (20000 : Int)) = true := by rw [decide_eq_true_iff]; omega
                have t2 : (T2.size : Int) + 4 ≤ (20000 : Int) := by omega
                (try rw [hok2] at HD)
                clear hok2 ok2
                all_goals
                  go_wp2_with fail
                  go_roundw
                  case rel =>
                    exact ⟨k + 1, _, _, rfl, rfl, by go_num, by omega, by rw [HTZ.out]; exact hbig, hbr.trans (hbX2.mono hbr.size), Lib.hid HD.out⟩
                  case measure => simp [intOf]; omega
              · rw [decide_eq_false hle] at HD
                have t1 : decide ((T2.size : Int) + 4 ≤ (20000 : Int)) = false := by rw [decide_eq_false_iff_not]; omega
                have t2 : ¬ (T2.size : Int) + 4 ≤ (20000 : Int) := by omega
                (try rw [hok2] at HD)
                clear hok2 ok2
                all_goals
                  go_wp2_with fail
                  go_roundw
                  case rel =>
                    exact ⟨k + 1, _, _, rfl, rfl, by go_num, by omega, by rw [HTZ.out]; exact hbig, hbr.trans (hbX2.mono hbr.size), Lib.hid HD.out⟩
                  case measure => simp [intOf]; omega
            ·
              have hjl : j < b.2.2.1.length := by rw [HM.out]; exact hj
              obtain ⟨g', off', cap3, c', eb', hz1, hz2, hz3, hR', hcell'⟩ := SliceOf.at_ (by omega) (HROW.out.keep hbi fun c x => fldRA_keep hbi) hjl
              injection eb' with eb1 eb2 eb3
              subst eb1
              subst eb3
              clear eb2 hz1 hz2
              obtain ⟨f, hfd⟩ : ∃ f, b.2.2.1[j] = f := ⟨_, rfl⟩
              rw [hfd] at hR'
              obtain ⟨u3, rfl, hrowf⟩ := hR'
              have hsf : SmF f := by rw [← hfd]; exact hsb.2.2.2 _ (List.getElem_mem hjl)
              obtain ⟨KF, hKF⟩ : ∃ S : ByteArray, (⟨f.1.toArray⟩ : ByteArray) = S := ⟨_, rfl⟩
              have eKF : strV f.1 = .string KF := by unfold strV; rw [hKF]
              obtain ⟨p3, cap4, eu3, hw1, hw2⟩ := RowAt.shapeS hrowf
              obtain ⟨lf3, hlf3⟩ : ∃ x, ln f.2.2 = x := ⟨_, rfl⟩
              obtain ⟨m3, hm3⟩ : ∃ m, f.2.1.length = m := ⟨_, rfl⟩
              rw [hm3] at eu3
              subst eu3
              rw [eKF, hlf3] at hcell'
              have q0 : wr.cell? ⟨g', off' + j * 3, none⟩ = some (.string KF) := hcell' 0 _ rfl
              have q1 : wr.cell? ⟨g', off' + j * 3 + 1, none⟩ = some (.slice p3 m3 cap4) := hcell' 1 _ rfl
              have q2 : wr.cell? ⟨g', off' + j * 3 + 2, none⟩ = some (.int .i64 lf3) := hcell' 2 _ rfl
              have LC := rline_c hsf (u := .slice p3 m3 cap4) (l := lf3) wr hrowf
              rw [eKF] at LC
              have LC := Lib.hid LC
              have HNX : Hid (∀ S fine, RL f S fine → InB s k b (j + 1) (fine && decide (T2.size + S.size ≤ 20000)) (T2 ++ S).data.toList) := Lib.hid (fun S fine hr => by
                have e := InB.next HBD.out.1 HBD.out.2 hjl hInB.out (S := S) (fine := fine) (by rw [hfd]; exact hr)
                rw [← data_app', ← Lib.size_eq, size_cat] at e
                exact e)
              clear hfd hjl hKF eKF hlf3 hm3 hcell' hrowf hInB
              obtain ⟨wo2, hwo2⟩ : ∃ x, x = wr := ⟨_, rfl⟩
              go_upto_region 16 with (go_at_call 29; ((with_reducible refine (LC.out).mono ?_); rintro e w5 ⟨S, fine, rfl, hRL, hb5⟩; have HN5 := Lib.hid (HNX.out _ _ hRL); have hSs := hRL.1; clear hRL; have hbi5 := hbi.trans (hb5.mono hbi.size)))
              have HSZ : Hid ((T2 ++ S).size = T2.size + S.size) := Lib.hid (size_cat _ _)
              by_cases hle : T2.size + S.size ≤ 20000
              · rw [decide_eq_true hle] at HN5
                have t1 : decide ((T2.size : Int) + (S.size : Int) ≤ (20000 : Int)) = true := by rw [decide_eq_true_iff]; omega
                have t2 : (T2.size : Int) + (S.size : Int) ≤ (20000 : Int) := by omega
                cases fine
                all_goals
                  go_wp2_with fail
                  go_roundw
                  case rel =>
                    exact ⟨j + 1, _, _, rfl, rfl, by go_num, by omega, by rw [HSZ.out]; omega, hbi5, Lib.hid HN5.out⟩
                  case measure => simp [intOf]; omega
              · rw [decide_eq_false hle] at HN5
                have t1 : decide ((T2.size : Int) + (S.size : Int) ≤ (20000 : Int)) = false := by rw [decide_eq_false_iff_not]; omega
                have t2 : ¬ (T2.size : Int) + (S.size : Int) ≤ (20000 : Int) := by omega
                cases fine
                all_goals
                  go_wp2_with fail
                  go_roundw
                  case rel =>
                    exact ⟨j + 1, _, _, rfl, rfl, by go_num, by omega, by rw [HSZ.out]; omega, hbi5, Lib.hid HN5.out⟩
                  case measure => simp [intOf]; omega
          · have hjm : j = m' := by omega
            have hInB2 : InB s k b b.2.2.1.length ok2 T2.data.toList := by rw [HM.out, ← hjm]; exact hInB.out
            clear hjm
            have hIn2 : InS s k true (preL s k) := by have := hIn.out; rw [HE.out] at this; exact this
            have HD := Lib.hid (InB.done (ok := ok2) HBD.out.1 HBD.out.2 (T := T2.data.toList) hInB2 hIn2)
            have hlen : (T2.data.toList ++ [32, 32, 125, 10]).length = T2.size + 4 := by rw [List.length_append, Lib.size_eq]; rfl
            have hTT : (T2 ++ (⟨#[32, 32, 125, 10]⟩ : ByteArray)).data.toList = T2.data.toList ++ [32, 32, 125, 10] := by rw [data_app']
            rw [hlen, ← hTT] at HD
            have HTZ : Hid ((T2 ++ (⟨#[32, 32, 125, 10]⟩ : ByteArray)).size = T2.size + 4) := Lib.hid (by rw [size_cat]; rfl)
            have hbig : T2.size + 4 ≤ 3000 + (k + 1) * 4000000000 := by have : j * 3000000 ≤ 1000 * 3000000 := Nat.mul_le_mul_right _ (by omega); omega
            clear hlen hTT hIn2
            by_cases hle : T2.size + 4 ≤ 20000
            · rw [decide_eq_true hle] at HD
              have t1 : decide ((T2.size : Int) + 4 ≤ (20000 : Int)) = true := by rw [decide_eq_true_iff]; omega
              have t2 : (T2.size : Int) + 4 ≤ (20000 : Int) := by omega
              cases ok2
              all_goals
                go_wp2_with fail
                go_roundw
                case rel =>
                  exact ⟨k + 1, _, _, rfl, rfl, by go_num, by omega, by rw [HTZ.out]; exact hbig, hbr.trans (hbX2.mono hbr.size), Lib.hid HD.out⟩
                case measure => simp [intOf]; omega
            · rw [decide_eq_false hle] at HD
              have t1 : decide ((T2.size : Int) + 4 ≤ (20000 : Int)) = false := by rw [decide_eq_false_iff_not]; omega
              have t2 : ¬ (T2.size : Int) + 4 ≤ (20000 : Int) := by omega
              cases ok2
              all_goals
                go_wp2_with fail
                go_roundw
                case rel =>
                  exact ⟨k + 1, _, _, rfl, rfl, by go_num, by omega, by rw [HTZ.out]; exact hbig, hbr.trans (hbX2.mono hbr.size), Lib.hid HD.out⟩
                case measure => simp [intOf]; omega
    · have hkn : k = n := by omega
      subst hkn
      have hT : s.2.take k = s.2 := by rw [← HN.out, List.take_length]
      have hS2 : (T ++ (⟨#[125, 10]⟩ : ByteArray)).size = T.size + 2 := by rw [size_cat]; rfl
      cases ok
      · have hbad := Lib.hid (HNO.out (hIn.out.2 rfl))
        clear hT hS2 HYES
        go_wp2_with fail
        go_ret2
        exact ⟨ret_sbb hbad.out.1 hbad.out.2, hbr0⟩
      · obtain ⟨h1, h2, h3⟩ := hIn.out.1 rfl
        have hOK1 : srcOk s = true := by
          rw [hT] at h3
          unfold srcOk
          rw [h1, h3]; rfl
        have hL : (T ++ (⟨#[125, 10]⟩ : ByteArray)) = ⟨(srcL s).toArray⟩ := by
          rw [← Lib.mk_data (_ ++ _), data_app', h2]
          unfold preL
          rw [hT]
          rfl
        have hsz : T.size + 2 = (srcL s).length := by
          rw [← hS2, hL, size_mk]
        have HY := HYES.out hOK1
        rw [← hL, ← hsz] at HY
        clear hT hOK1 hL hsz hS2 h1 h2 h3
        by_cases hle : T.size + 2 ≤ 20000
        · rw [if_pos hle] at HY
          have HYh := Lib.hid HY
          clear HY HYES
          have t1 : decide ((20000 : Int) < (T.size : Int) + 2) = false := by rw [decide_eq_false_iff_not]; omega
          have t2 : ¬ (20000 : Int) < (T.size : Int) + 2 := by omega
          go_wp2_with fail
          go_ret2
          exact ⟨ret_sbb HYh.out.1 HYh.out.2, hbr0⟩
        · rw [if_neg hle] at HY
          have HYh := Lib.hid HY
          clear HY HYES
          have t1 : decide ((20000 : Int) < (T.size : Int) + 2) = true := by rw [decide_eq_true_iff]; omega
          have t2 : (20000 : Int) < (T.size : Int) + 2 := by omega
          go_wp2_with fail
          go_ret2
          exact ⟨ret_sbb HYh.out.1 HYh.out.2, hbr0⟩
end

end Go.Proofs.Ythdcgplocdehjaa
