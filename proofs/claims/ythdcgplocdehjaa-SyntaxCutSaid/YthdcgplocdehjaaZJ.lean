import Derived.Test.YthdcgplocdehjaaZI
/- The code's lines. -/
namespace Go.Proofs.Ythdcgplocdehjaa
open Go.RowKit Go.Proofs.Kit

section
variable {α : Type} {ln : α → Int}
theorem fldRA_keep {w w' : World} {c : List Value} {f : FldA α} (hb : Below w.heap.size w w') (h : fldRA ln w c f) : fldRA ln w' c f := by
  obtain ⟨u, rfl, hr⟩ := h
  exact ⟨u, rfl, hr.keep hb⟩
theorem blkRA_keep {w w' : World} {c : List Value} {b : BlkA α} (hb : Below w.heap.size w w') (h : blkRA ln w c b) : blkRA ln w' c b := by
  obtain ⟨u, rfl, hr⟩ := h
  exact ⟨u, rfl, hr.keep hb fun c x => fldRA_keep hb⟩
theorem flat_snoc {β : Type} (g : β → List UInt8) (l : List β) (k : Nat) (h : k < l.length) : (l.take (k + 1)).flatMap g = (l.take k).flatMap g ++ g l[k] := by
  rw [List.take_succ_eq_append_getElem h, List.flatMap_append]; simp
theorem all_snoc {β : Type} (p : β → Bool) (l : List β) (k : Nat) (h : k < l.length) (ha : (l.take k).all p = true) (hk : p l[k] = true) : (l.take (k + 1)).all p = true := by
  rw [List.take_succ_eq_append_getElem h, List.all_append, ha, List.all_cons, hk]; rfl
/-- What a block's lines begin with. -/
theorem lines_start {b : BlkA α} {K N : ByteArray} (hK : K.data.toList = b.1) (hN : N.data.toList = b.2.1) :
    (b.2.1 = [] → (((⟨#[32, 32]⟩ : ByteArray) ++ K) ++ (⟨#[32, 123, 10]⟩ : ByteArray)).data.toList = headL b) ∧ (b.2.1 ≠ [] → ((((⟨#[32, 32]⟩ : ByteArray) ++ K) ++ ((⟨#[32]⟩ : ByteArray) ++ N)) ++ (⟨#[32, 123, 10]⟩ : ByteArray)).data.toList = headL b) := by
  refine ⟨fun h => ?_, fun h => ?_⟩
  · simp only [data_app', hK, headL, h]
    simp
  · have e : b.2.1.isEmpty = false := by rw [Bool.eq_false_iff]; intro hh; exact h (List.isEmpty_iff.1 hh)
    simp only [data_app', hK, hN, headL, e]
    simp

set_option maxRecDepth 100000 in
set_option maxHeartbeats 4000000 in
theorem lines_c {b : BlkA α} (hf : SmB b) {u : Value} {l : Int} (w : World) (hu : SliceOf (fldRA ln) 3 w u b.2.2.1) :
    Calls Try.prog 26 #[.agg #[strV b.1, strV b.2.1, u, .int .i64 l]] w fun e w' => e = .returned (.tuple #[.string ⟨(if blockOk b then blockL b else []).toArray⟩, .bool (blockOk b)]) ∧ Below w.heap.size w w' := by
  obtain ⟨K, hK⟩ : ∃ K : ByteArray, (⟨b.1.toArray⟩ : ByteArray) = K := ⟨_, rfl⟩
  have hKd : K.data.toList = b.1 := by rw [← hK]
  have hKs : K.size ≤ 1000 := by rw [Lib.size_eq, hKd]; exact hf.1
  obtain ⟨N, hN⟩ : ∃ N : ByteArray, (⟨b.2.1.toArray⟩ : ByteArray) = N := ⟨_, rfl⟩
  have hNd : N.data.toList = b.2.1 := by rw [← hN]
  have hNs : N.size ≤ 1000 := by rw [Lib.size_eq, hNd]; exact hf.2.1
  have HST := Lib.hid (lines_start hKd hNd)
  obtain ⟨p, cap, eu, hc1, hc2⟩ := hu.shape
  obtain ⟨n, hnn⟩ : ∃ n, b.2.2.1.length = n := ⟨_, rfl⟩
  have HN := Lib.hid hnn
  have hn := hf.2.2.1
  rw [hnn] at eu hc1 hn
  subst eu
  have hBd : Below w.heap.size w (w.alloc (.cells #[.string K, .string N, .slice p n cap, .int .i64 l] 39)) := (Below.refl _ _).alloc (Nat.le_refl _) _
  have R0 := Lib.hid (Bk.new w #[.string K, .string N, .slice p n cap, .int .i64 l] 39)
  have WK := Lib.hid (fun w => word_c K w (by unfold maxLen; omega))
  have WN := Lib.hid (fun w => word_c N w (by unfold maxLen; omega))
  rw [hKd] at WK
  rw [hNd] at WN
  rw [show strV b.1 = .string K by unfold strV; rw [hK], show strV b.2.1 = .string N by unfold strV; rw [hN]]
  obtain ⟨wk, hwk⟩ : ∃ x, wordB b.1 = x := ⟨_, rfl⟩
  obtain ⟨wn, hwn⟩ : ∃ x, wordB b.2.1 = x := ⟨_, rfl⟩
  have HBO : Hid (blockOk b = (wk && (b.2.1.isEmpty || wn) && b.2.2.1.all fieldOk)) := Lib.hid (by unfold blockOk; rw [hwk, hwn])
  rw [hwk] at WK
  rw [hwn] at WN
  obtain ⟨ok, hok⟩ : ∃ x, blockOk b = x := ⟨_, rfl⟩
  obtain ⟨A, hA⟩ : ∃ A : ByteArray, (⟨(if blockOk b then blockL b else []).toArray⟩ : ByteArray) = A := ⟨_, rfl⟩
  rw [hA, hok]
  have HOk := Lib.hid hok
  have HAn := Lib.hid hA
  have HNO : Hid (blockOk b = false → ⟨#[]⟩ = A ∧ false = ok) := Lib.hid (fun h => by rw [← hA, ← hok, h]; exact ⟨rfl, rfl⟩)
  obtain ⟨c0, c1, c2, c3⟩ := R0.out.four
  have HU := Lib.hid hu
  have hNe : (b.2.1 = [] → N.toList = [] ∧ N.toList.isEmpty = true) ∧ (b.2.1 ≠ [] → N.toList ≠ [] ∧ N.toList.isEmpty = false) := by
    have e : N.toList = b.2.1 := by rw [← hN, Lib.toList_data]
    rw [e]
    exact ⟨fun h => ⟨h, by rw [h]; rfl⟩, fun h => ⟨h, by rw [Bool.eq_false_iff]; intro hh; exact h (List.isEmpty_iff.1 hh)⟩⟩
  have HNE := Lib.hid hNe
  have HIE : Hid (b.2.1 ≠ [] → b.2.1.isEmpty = false) := Lib.hid (fun h => by rw [Bool.eq_false_iff]; intro hh; exact h (List.isEmpty_iff.1 hh))
  clear hK hKd hN hNd hwk hwn hok hA hu hNe hnn
  cases wk
  · go_enter Try.func26, Try.ntmps26
    go_wp2_with (go_at_call 40; ((with_reducible refine (WK.out _).mono ?_); rintro e w1 ⟨rfl, hb1⟩; have d1 := cell_keep hb1 c1))
    go_ret2
    obtain ⟨h1, h2⟩ := HNO.out (by rw [HBO.out]; rfl)
    exact ⟨ret_sbb h1 h2, bel3 hBd hb1⟩
  by_cases hemp : b.2.1 = []
  · obtain ⟨hE, hE2⟩ := HNE.out.1 hemp
    have HS1 := Lib.hid (HST.out.1 hemp)
    have HTR : Hid ((b.2.1.isEmpty || wn) = true) := Lib.hid (by rw [hemp]; rfl)
    clear hemp
    go_enter Try.func26, Try.ntmps26
    go_wp2_with (go_at_call 40; ((with_reducible refine (WK.out _).mono ?_); rintro e w1 ⟨rfl, hb1⟩; have d1 := cell_keep hb1 c1; have d0 := cell_keep hb1 c0; have d2 := cell_keep hb1 c2))
    have HUW := Lib.hid (HU.out.keep (bel3 hBd hb1) fun c x => fldRA_keep (bel3 hBd hb1))
    have hbw := (bel3 hBd hb1)
    go_loopw [4, 40] (fun t i wr => ∃ k : Nat, ∃ S : ByteArray, k ≤ n ∧ t = .string S ∧ i = .int .i64 k ∧ S.size ≤ 3000 + k * 3000000 ∧ Below w.heap.size w wr ∧ Hid (S.data.toList = headL b ++ (b.2.2.1.take k).flatMap fieldL) ∧ Hid ((b.2.2.1.take k).all fieldOk = true)) (fun _ i _ => n - (intOf i).toNat)
    case atStart => exact ⟨0, _, Nat.zero_le _, rfl, rfl, by rw [Lib.size_eq, HS1.out]; have := headL_len hf; omega, hbw, Lib.hid (by rw [HS1.out]; simp), Lib.hid rfl⟩
    case round =>
      obtain ⟨k, S, hk, rfl, rfl, hS, hbr, hA1, hP1⟩ := hrel
      by_cases hlt : k < n
      · have hkl : k < b.2.2.1.length := by rw [HN.out]; exact hlt
        obtain ⟨g, off, cap', c, eb, hx1, hx2, hx3, hR, hcell⟩ := SliceOf.at_ (by omega) (HU.out.keep hbr fun c x => fldRA_keep hbr) hkl
        injection eb with eb1 eb2 eb3
        subst eb1
        subst eb3
        clear eb2 hx1 hx2
        obtain ⟨f, hfd⟩ : ∃ f, b.2.2.1[k] = f := ⟨_, rfl⟩
        rw [hfd] at hR
        obtain ⟨u', rfl, hrow⟩ := hR
        have hsf : SmF f := by rw [← hfd]; exact hf.2.2.2 _ (List.getElem_mem hkl)
        obtain ⟨KF, hKF⟩ : ∃ S : ByteArray, (⟨f.1.toArray⟩ : ByteArray) = S := ⟨_, rfl⟩
        have eKF : strV f.1 = .string KF := by unfold strV; rw [hKF]
        obtain ⟨p', cap2, eu2, hy1, hy2⟩ := RowAt.shapeS hrow
        obtain ⟨lf, hlf⟩ : ∃ x, ln f.2.2 = x := ⟨_, rfl⟩
        obtain ⟨m', hm'⟩ : ∃ m, f.2.1.length = m := ⟨_, rfl⟩
        rw [hm'] at eu2
        subst eu2
        rw [eKF, hlf] at hcell
        have g0 : wr.cell? ⟨g, off + k * 3, none⟩ = some (.string KF) := hcell 0 _ rfl
        have g1 : wr.cell? ⟨g, off + k * 3 + 1, none⟩ = some (.slice p' m' cap2) := hcell 1 _ rfl
        have g2 : wr.cell? ⟨g, off + k * 3 + 2, none⟩ = some (.int .i64 lf) := hcell 2 _ rfl
        have LC := line_c hsf (u := .slice p' m' cap2) (l := lf) (wr.alloc (.cells #[.string KF, .slice p' m' cap2, .int .i64 lf] 42)) (hrow.alloc _)
        rw [eKF] at LC
        have hFl := fieldL_len hsf
        obtain ⟨fb, hfb⟩ : ∃ x, fieldOk f = x := ⟨_, rfl⟩
        obtain ⟨FA, hFA⟩ : ∃ S : ByteArray, (⟨(if fieldOk f then fieldL f else []).toArray⟩ : ByteArray) = S := ⟨_, rfl⟩
        rw [hFA, hfb] at LC
        have hFs : FA.size ≤ 3000000 := by (rw [← hFA, size_mk]; split; exact hFl; exact Nat.zero_le _)
        have HFA : Hid (fb = true → FA.data.toList = fieldL f) := Lib.hid (fun h => by rw [← hFA, hfb, h]; rfl)
        have HBad : Hid (fb = false → blockOk b = false) := Lib.hid (fun h => by
          rw [HBO.out, all_not hkl (by rw [hfd, hfb, h]), Bool.and_false])
        have HSn := Lib.hid (flat_snoc fieldL b.2.2.1 k hkl)
        have HAs : Hid (fb = true → (b.2.2.1.take (k + 1)).all fieldOk = true) := Lib.hid (fun h => all_snoc fieldOk b.2.2.1 k hkl hP1.out (by rw [hfd, hfb, h]))
        rw [hfd] at HSn
        have LC := Lib.hid LC
        have N5 := Lib.hid (Bk.new wr #[.string KF, .slice p' m' cap2, .int .i64 lf] 42)
        obtain ⟨n0, n1, n2⟩ := N5.out.three
        have hbA := hbr.alloc hbr.size (.cells #[.string KF, .slice p' m' cap2, .int .i64 lf] 42)
        clear hFA hfb hfd hkl hKF eKF hlf hm' hcell hrow
        obtain ⟨wo, rfl⟩ : ∃ x, x = wr := ⟨_, rfl⟩
        cases fb
        · go_wp2_with (go_at_call 41; ((with_reducible refine (LC.out).mono ?_); rintro e w5 ⟨rfl, hb5⟩))
          go_ret2
          obtain ⟨h1, h2⟩ := HNO.out (HBad.out (by first | rfl | trivial))
          exact ⟨ret_sbb h1 h2, hbA.trans (hb5.mono hbA.size)⟩
        · go_wp2_with (go_at_call 41; ((with_reducible refine (LC.out).mono ?_); rintro e w5 ⟨rfl, hb5⟩))
          go_roundw
          case rel =>
            exact ⟨k + 1, S ++ FA, by omega, rfl, by go_num, by rw [size_cat]; omega, hbA.trans (hb5.mono hbA.size), Lib.hid (by rw [data_app', hA1.out, HFA.out (by first | rfl | trivial), HSn.out, List.append_assoc]), Lib.hid (HAs.out (by first | rfl | trivial))⟩
          case measure => simp [intOf]; omega
      · have hkn : k = n := by omega
        subst hkn
        have hT : b.2.2.1.take k = b.2.2.1 := by rw [← HN.out, List.take_length]
        have hOK1 : blockOk b = true := by
          have := hP1.out
          rw [hT] at this
          rw [HBO.out, this, HTR.out]; rfl
        have HA2 : Hid (S ++ (⟨#[32, 32, 125, 10]⟩ : ByteArray) = A) := Lib.hid (by
          rw [← HAn.out, hOK1, if_pos rfl, ← Lib.mk_data (_ ++ _), data_app', hA1.out, hT]
          rfl)
        have HK2 : Hid (true = ok) := Lib.hid (by rw [← HOk.out, hOK1])
        clear hT hOK1
        go_wp2_with fail
        go_ret2
        exact ⟨ret_sbb HA2.out HK2.out, hbr⟩
  · obtain ⟨hE, hE2⟩ := HNE.out.2 hemp
    have HS1 := Lib.hid (HST.out.2 hemp)
    have HTR : Hid ((b.2.1.isEmpty || wn) = wn) := Lib.hid (by rw [HIE.out hemp]; rfl)
    clear hemp
    cases wn
    · go_enter Try.func26, Try.ntmps26
      go_wp2_with (first
        | (go_at_call 40; ((with_reducible refine (WK.out _).mono ?_); rintro e w1 ⟨rfl, hb1⟩; have d1 := cell_keep hb1 c1; have d0 := cell_keep hb1 c0; have d2 := cell_keep hb1 c2))
        | (go_at_call 40; ((with_reducible refine (WN.out _).mono ?_); rintro e w2 ⟨rfl, hb2⟩; have f1 := cell_keep hb2 d1; have f0 := cell_keep hb2 d0; have f2 := cell_keep hb2 d2)))
      go_ret2
      obtain ⟨h1, h2⟩ := HNO.out (by rw [HBO.out, HTR.out]; rfl)
      exact ⟨ret_sbb h1 h2, bel3 (bel3 hBd hb1) hb2⟩
    go_enter Try.func26, Try.ntmps26
    go_wp2_with (first
      | (go_at_call 40; ((with_reducible refine (WK.out _).mono ?_); rintro e w1 ⟨rfl, hb1⟩; have d1 := cell_keep hb1 c1; have d0 := cell_keep hb1 c0; have d2 := cell_keep hb1 c2))
      | (go_at_call 40; ((with_reducible refine (WN.out _).mono ?_); rintro e w2 ⟨rfl, hb2⟩; have f1 := cell_keep hb2 d1; have f0 := cell_keep hb2 d0; have f2 := cell_keep hb2 d2)))
    have HUW := Lib.hid (HU.out.keep (bel3 (bel3 hBd hb1) hb2) fun c x => fldRA_keep (bel3 (bel3 hBd hb1) hb2))
    have hbw := (bel3 (bel3 hBd hb1) hb2)
    go_loopw [4, 40] (fun t i wr => ∃ k : Nat, ∃ S : ByteArray, k ≤ n ∧ t = .string S ∧ i = .int .i64 k ∧ S.size ≤ 3000 + k * 3000000 ∧ Below w.heap.size w wr ∧ Hid (S.data.toList = headL b ++ (b.2.2.1.take k).flatMap fieldL) ∧ Hid ((b.2.2.1.take k).all fieldOk = true)) (fun _ i _ => n - (intOf i).toNat)
    case atStart => exact ⟨0, _, Nat.zero_le _, rfl, rfl, by rw [Lib.size_eq, HS1.out]; have := headL_len hf; omega, hbw, Lib.hid (by rw [HS1.out]; simp), Lib.hid rfl⟩
    case round =>
      obtain ⟨k, S, hk, rfl, rfl, hS, hbr, hA1, hP1⟩ := hrel
      by_cases hlt : k < n
      · have hkl : k < b.2.2.1.length := by rw [HN.out]; exact hlt
        obtain ⟨g, off, cap', c, eb, hx1, hx2, hx3, hR, hcell⟩ := SliceOf.at_ (by omega) (HU.out.keep hbr fun c x => fldRA_keep hbr) hkl
        injection eb with eb1 eb2 eb3
        subst eb1
        subst eb3
        clear eb2 hx1 hx2
        obtain ⟨f, hfd⟩ : ∃ f, b.2.2.1[k] = f := ⟨_, rfl⟩
        rw [hfd] at hR
        obtain ⟨u', rfl, hrow⟩ := hR
        have hsf : SmF f := by rw [← hfd]; exact hf.2.2.2 _ (List.getElem_mem hkl)
        obtain ⟨KF, hKF⟩ : ∃ S : ByteArray, (⟨f.1.toArray⟩ : ByteArray) = S := ⟨_, rfl⟩
        have eKF : strV f.1 = .string KF := by unfold strV; rw [hKF]
        obtain ⟨p', cap2, eu2, hy1, hy2⟩ := RowAt.shapeS hrow
        obtain ⟨lf, hlf⟩ : ∃ x, ln f.2.2 = x := ⟨_, rfl⟩
        obtain ⟨m', hm'⟩ : ∃ m, f.2.1.length = m := ⟨_, rfl⟩
        rw [hm'] at eu2
        subst eu2
        rw [eKF, hlf] at hcell
        have g0 : wr.cell? ⟨g, off + k * 3, none⟩ = some (.string KF) := hcell 0 _ rfl
        have g1 : wr.cell? ⟨g, off + k * 3 + 1, none⟩ = some (.slice p' m' cap2) := hcell 1 _ rfl
        have g2 : wr.cell? ⟨g, off + k * 3 + 2, none⟩ = some (.int .i64 lf) := hcell 2 _ rfl
        have LC := line_c hsf (u := .slice p' m' cap2) (l := lf) (wr.alloc (.cells #[.string KF, .slice p' m' cap2, .int .i64 lf] 42)) (hrow.alloc _)
        rw [eKF] at LC
        have hFl := fieldL_len hsf
        obtain ⟨fb, hfb⟩ : ∃ x, fieldOk f = x := ⟨_, rfl⟩
        obtain ⟨FA, hFA⟩ : ∃ S : ByteArray, (⟨(if fieldOk f then fieldL f else []).toArray⟩ : ByteArray) = S := ⟨_, rfl⟩
        rw [hFA, hfb] at LC
        have hFs : FA.size ≤ 3000000 := by (rw [← hFA, size_mk]; split; exact hFl; exact Nat.zero_le _)
        have HFA : Hid (fb = true → FA.data.toList = fieldL f) := Lib.hid (fun h => by rw [← hFA, hfb, h]; rfl)
        have HBad : Hid (fb = false → blockOk b = false) := Lib.hid (fun h => by
          rw [HBO.out, all_not hkl (by rw [hfd, hfb, h]), Bool.and_false])
        have HSn := Lib.hid (flat_snoc fieldL b.2.2.1 k hkl)
        have HAs : Hid (fb = true → (b.2.2.1.take (k + 1)).all fieldOk = true) := Lib.hid (fun h => all_snoc fieldOk b.2.2.1 k hkl hP1.out (by rw [hfd, hfb, h]))
        rw [hfd] at HSn
        have LC := Lib.hid LC
        have N5 := Lib.hid (Bk.new wr #[.string KF, .slice p' m' cap2, .int .i64 lf] 42)
        obtain ⟨n0, n1, n2⟩ := N5.out.three
        have hbA := hbr.alloc hbr.size (.cells #[.string KF, .slice p' m' cap2, .int .i64 lf] 42)
        clear hFA hfb hfd hkl hKF eKF hlf hm' hcell hrow
        obtain ⟨wo, rfl⟩ : ∃ x, x = wr := ⟨_, rfl⟩
        cases fb
        · go_wp2_with (go_at_call 41; ((with_reducible refine (LC.out).mono ?_); rintro e w5 ⟨rfl, hb5⟩))
          go_ret2
          obtain ⟨h1, h2⟩ := HNO.out (HBad.out (by first | rfl | trivial))
          exact ⟨ret_sbb h1 h2, hbA.trans (hb5.mono hbA.size)⟩
        · go_wp2_with (go_at_call 41; ((with_reducible refine (LC.out).mono ?_); rintro e w5 ⟨rfl, hb5⟩))
          go_roundw
          case rel =>
            exact ⟨k + 1, S ++ FA, by omega, rfl, by go_num, by rw [size_cat]; omega, hbA.trans (hb5.mono hbA.size), Lib.hid (by rw [data_app', hA1.out, HFA.out (by first | rfl | trivial), HSn.out, List.append_assoc]), Lib.hid (HAs.out (by first | rfl | trivial))⟩
          case measure => simp [intOf]; omega
      · have hkn : k = n := by omega
        subst hkn
        have hT : b.2.2.1.take k = b.2.2.1 := by rw [← HN.out, List.take_length]
        have hOK1 : blockOk b = true := by
          have := hP1.out
          rw [hT] at this
          rw [HBO.out, this, HTR.out]; rfl
        have HA2 : Hid (S ++ (⟨#[32, 32, 125, 10]⟩ : ByteArray) = A) := Lib.hid (by
          rw [← HAn.out, hOK1, if_pos rfl, ← Lib.mk_data (_ ++ _), data_app', hA1.out, hT]
          rfl)
        have HK2 : Hid (true = ok) := Lib.hid (by rw [← HOk.out, hOK1])
        clear hT hOK1
        go_wp2_with fail
        go_ret2
        exact ⟨ret_sbb HA2.out HK2.out, hbr⟩
end

end Go.Proofs.Ythdcgplocdehjaa

/- The code's Print. -/
namespace Go.Proofs.Ythdcgplocdehjaa
open Go.RowKit Go.Proofs.Kit

section
variable {α : Type} {ln : α → Int}
theorem printL_no {s : SrcA α} (h : srcOk s = false) : printL s = ([], false) := by unfold printL; rw [h]; rfl
set_option maxRecDepth 100000 in
set_option maxHeartbeats 4000000 in
theorem print_c {s : SrcA α} (hf : SmS s) {u : Value} (w : World) (hu : SliceOf (blkRA ln) 4 w u s.2) :
    Calls Try.prog 14 #[.agg #[strV s.1, u]] w fun e w' => e = .returned (.tuple #[.string ⟨(printL s).1.toArray⟩, .bool (printL s).2]) ∧ Below w.heap.size w w' := by
  obtain ⟨K, hK⟩ : ∃ K : ByteArray, (⟨s.1.toArray⟩ : ByteArray) = K := ⟨_, rfl⟩
  have hKd : K.data.toList = s.1 := by rw [← hK]
  have hKs : K.size ≤ 1000 := by rw [Lib.size_eq, hKd]; exact hf.1
  obtain ⟨p, cap, eu, hc1, hc2⟩ := hu.shape
  obtain ⟨n, hnn⟩ : ∃ n, s.2.length = n := ⟨_, rfl⟩
  have HN := Lib.hid hnn
  have hn := hf.2.1
  rw [hnn] at eu hc1 hn
  subst eu
  have hBd : Below w.heap.size w (w.alloc (.cells #[.string K, .slice p n cap] 24)) := (Below.refl _ _).alloc (Nat.le_refl _) _
  have R0 := Lib.hid (Bk.new w #[.string K, .slice p n cap] 24)
  have QK := Lib.hid (fun w => quote_any K w (by omega))
  rw [hKd] at QK
  rw [show strV s.1 = .string K by unfold strV; rw [hK]]
  obtain ⟨Q, hQ⟩ : ∃ Q : ByteArray, (⟨(quoteL s.1).1.toArray⟩ : ByteArray) = Q := ⟨_, rfl⟩
  obtain ⟨qb, hqb⟩ : ∃ x, (quoteL s.1).2 = x := ⟨_, rfl⟩
  have hQs : Q.size ≤ 2002 := by rw [← hQ, size_mk]; have := quoteL_len s.1; have := hf.1; omega
  have HQD : Hid (Q.data.toList = (quoteL s.1).1) := Lib.hid (by rw [← hQ])
  have hqb2 := hqb
  rw [quoteL_ok] at hqb2
  have HSO : Hid (srcOk s = (qb && s.2.all blockOk)) := Lib.hid (by unfold srcOk; rw [hqb2])
  rw [hQ, hqb] at QK
  obtain ⟨A, hA⟩ : ∃ A : ByteArray, (⟨(printL s).1.toArray⟩ : ByteArray) = A := ⟨_, rfl⟩
  obtain ⟨ok, hok⟩ : ∃ x, (printL s).2 = x := ⟨_, rfl⟩
  rw [hA, hok]
  have HNO : Hid (srcOk s = false → ⟨#[]⟩ = A ∧ false = ok) := Lib.hid (fun h => by rw [← hA, ← hok, printL_no h]; exact ⟨rfl, rfl⟩)
  have HYES : Hid (srcOk s = true → (if (srcL s).length ≤ 20000 then (⟨(srcL s).toArray⟩ : ByteArray) = A ∧ true = ok else ⟨#[]⟩ = A ∧ false = ok)) := Lib.hid (fun h => by
    rw [← hA, ← hok]
    unfold printL
    rw [h]
    by_cases hl : (srcL s).length ≤ 20000
    · rw [if_pos hl]; simp [hl]
    · rw [if_neg hl]; simp [hl])
  obtain ⟨c0, c1⟩ := R0.out.two
  have HU := Lib.hid (hu.keep hBd fun c x => blkRA_keep hBd)
  clear hK hKd hQ hqb hqb2 hA hok hu hnn
  cases qb
  · go_enter Try.func14, Try.ntmps14
    go_wp2_with (go_at_call 25; ((with_reducible refine (QK.out _).mono ?_); rintro e w1 ⟨rfl, hb1⟩))
    go_ret2
    obtain ⟨h1, h2⟩ := HNO.out (by rw [HSO.out]; rfl)
    exact ⟨ret_sbb h1 h2, bel3 hBd hb1⟩
  · go_enter Try.func14, Try.ntmps14
    go_wp2_with (go_at_call 25; ((with_reducible refine (QK.out _).mono ?_); rintro e w1 ⟨rfl, hb1⟩; have d0 := cell_keep hb1 c0; have d1 := cell_keep hb1 c1))
    have hbw := bel3 hBd hb1
    have HU1 := Lib.hid (HU.out.keep hb1 fun c x => blkRA_keep hb1)
    have HS1 : Hid ((((⟨#[101, 108, 101, 99, 116, 105, 111, 110, 32]⟩ : ByteArray) ++ Q) ++ (⟨#[32, 123, 10]⟩ : ByteArray)).data.toList = [101, 108, 101, 99, 116, 105, 111, 110, 32] ++ (quoteL s.1).1 ++ [32, 123, 10]) := Lib.hid (by simp only [data_app', HQD.out])
    go_loopw [6, 25] (fun t i wr => ∃ k : Nat, ∃ S : ByteArray, k ≤ n ∧ t = .string S ∧ i = .int .i64 k ∧ S.size ≤ 3000 + k * 4000000000 ∧ Below w1.heap.size w1 wr ∧ Hid (S.data.toList = [101, 108, 101, 99, 116, 105, 111, 110, 32] ++ (quoteL s.1).1 ++ [32, 123, 10] ++ (s.2.take k).flatMap blockL) ∧ Hid ((s.2.take k).all blockOk = true)) (fun _ i _ => n - (intOf i).toNat)
    case atStart => exact ⟨0, _, Nat.zero_le _, rfl, rfl, by rw [size_cat, size_cat, show (⟨#[101, 108, 101, 99, 116, 105, 111, 110, 32]⟩ : ByteArray).size = 9 from rfl, show (⟨#[32, 123, 10]⟩ : ByteArray).size = 3 from rfl]; omega, Below.refl _ _, Lib.hid (by rw [HS1.out]; simp), Lib.hid rfl⟩
    case round =>
      obtain ⟨k, S, hk, rfl, rfl, hS, hbr, hA1, hP1⟩ := hrel
      have hbr0 := bel3 hbw hbr
      by_cases hlt : k < n
      · have hkl : k < s.2.length := by rw [HN.out]; exact hlt
        obtain ⟨g, off, cap', c, eb, hx1, hx2, hx3, hR, hcell⟩ := SliceOf.at_ (by omega) (HU1.out.keep hbr fun c x => blkRA_keep hbr) hkl
        injection eb with eb1 eb2 eb3
        subst eb1
        subst eb3
        clear eb2 hx1 hx2
        obtain ⟨b, hbd⟩ : ∃ b, s.2[k] = b := ⟨_, rfl⟩
        rw [hbd] at hR
        obtain ⟨u', rfl, hrow⟩ := hR
        have hsb : SmB b := by rw [← hbd]; exact hf.2.2 _ (List.getElem_mem hkl)
        obtain ⟨KB, hKB⟩ : ∃ S : ByteArray, (⟨b.1.toArray⟩ : ByteArray) = S := ⟨_, rfl⟩
        have eKB : strV b.1 = .string KB := by unfold strV; rw [hKB]
        obtain ⟨NB, hNB⟩ : ∃ S : ByteArray, (⟨b.2.1.toArray⟩ : ByteArray) = S := ⟨_, rfl⟩
        have eNB : strV b.2.1 = .string NB := by unfold strV; rw [hNB]
        obtain ⟨p', cap2, eu2, hy1, hy2⟩ := hrow.shape
        obtain ⟨lf, hlf⟩ : ∃ x, ln b.2.2.2 = x := ⟨_, rfl⟩
        obtain ⟨m', hm'⟩ : ∃ m, b.2.2.1.length = m := ⟨_, rfl⟩
        rw [hm'] at eu2
        subst eu2
        rw [eKB, eNB, hlf] at hcell
        have g0 : wr.cell? ⟨g, off + k * 4, none⟩ = some (.string KB) := hcell 0 _ rfl
        have g1 : wr.cell? ⟨g, off + k * 4 + 1, none⟩ = some (.string NB) := hcell 1 _ rfl
        have g2 : wr.cell? ⟨g, off + k * 4 + 2, none⟩ = some (.slice p' m' cap2) := hcell 2 _ rfl
        have g3 : wr.cell? ⟨g, off + k * 4 + 3, none⟩ = some (.int .i64 lf) := hcell 3 _ rfl
        have hbX : Below wr.heap.size wr (wr.alloc (.cells #[.string KB, .string NB, .slice p' m' cap2, .int .i64 lf] 39)) := (Below.refl _ _).alloc (Nat.le_refl _) _
        have LC := lines_c (ln := ln) hsb (u := .slice p' m' cap2) (l := lf) (wr.alloc (.cells #[.string KB, .string NB, .slice p' m' cap2, .int .i64 lf] 39)) (hrow.keep hbX fun c x => fldRA_keep hbX)
        rw [eKB, eNB] at LC
        have hFl := blockL_len hsb
        obtain ⟨fb, hfb⟩ : ∃ x, blockOk b = x := ⟨_, rfl⟩
        obtain ⟨FA, hFA⟩ : ∃ S : ByteArray, (⟨(if blockOk b then blockL b else []).toArray⟩ : ByteArray) = S := ⟨_, rfl⟩
        rw [hFA, hfb] at LC
        have hFs : FA.size ≤ 4000000000 := by (rw [← hFA, size_mk]; split; exact hFl; exact Nat.zero_le _)
        have HFA : Hid (fb = true → FA.data.toList = blockL b) := Lib.hid (fun h => by rw [← hFA, hfb, h]; rfl)
        have HBad : Hid (fb = false → srcOk s = false) := Lib.hid (fun h => by
          rw [HSO.out, all_not hkl (by rw [hbd, hfb, h]), Bool.and_false])
        have HSn := Lib.hid (flat_snoc blockL s.2 k hkl)
        have HAs : Hid (fb = true → (s.2.take (k + 1)).all blockOk = true) := Lib.hid (fun h => all_snoc blockOk s.2 k hkl hP1.out (by rw [hbd, hfb, h]))
        rw [hbd] at HSn
        have LC := Lib.hid LC
        have N5 := Lib.hid (Bk.new wr #[.string KB, .string NB, .slice p' m' cap2, .int .i64 lf] 39)
        obtain ⟨n0, n1, n2, n3⟩ := N5.out.four
        have hbA := hbr.alloc hbr.size (.cells #[.string KB, .string NB, .slice p' m' cap2, .int .i64 lf] 39)
        clear hFA hfb hbd hkl hKB eKB hNB eNB hlf hm' hcell hrow
        obtain ⟨wo, rfl⟩ : ∃ x, x = wr := ⟨_, rfl⟩
        cases fb
        · go_wp2_with (go_at_call 26; ((with_reducible refine (LC.out).mono ?_); rintro e w5 ⟨rfl, hb5⟩))
          go_ret2
          obtain ⟨h1, h2⟩ := HNO.out (HBad.out (by first | rfl | trivial))
          exact ⟨ret_sbb h1 h2, bel3 hbw (hbA.trans (hb5.mono hbA.size))⟩
        · go_wp2_with (go_at_call 26; ((with_reducible refine (LC.out).mono ?_); rintro e w5 ⟨rfl, hb5⟩))
          go_roundw
          case rel =>
            exact ⟨k + 1, S ++ FA, by omega, rfl, by go_num, by rw [size_cat]; omega, hbA.trans (hb5.mono hbA.size), Lib.hid (by rw [data_app', hA1.out, HFA.out (by first | rfl | trivial), HSn.out]; simp only [List.append_assoc]), Lib.hid (HAs.out (by first | rfl | trivial))⟩
          case measure => simp [intOf]; omega
      · have hkn : k = n := by omega
        subst hkn
        have hT : s.2.take k = s.2 := by rw [← HN.out, List.take_length]
        have hOK1 : srcOk s = true := by
          have := hP1.out
          rw [hT] at this
          rw [HSO.out, this]; rfl
        have hL : (S ++ (⟨#[125, 10]⟩ : ByteArray)) = ⟨(srcL s).toArray⟩ := by
          rw [← Lib.mk_data (_ ++ _), data_app', hA1.out, hT]
          rfl
        have hsz : S.size + 2 = (srcL s).length := by
          have := congrArg ByteArray.size hL
          rw [size_cat, size_mk] at this
          exact this
        have HY := HYES.out hOK1
        rw [← hL, ← hsz] at HY
        clear hT hOK1 hL hsz
        by_cases hle : S.size + 2 ≤ 20000
        · rw [if_pos hle] at HY
          have HYh := Lib.hid HY
          clear HY HYES
          have t1 : decide ((20000 : Int) < (S.size : Int) + 2) = false := by rw [decide_eq_false_iff_not]; omega
          have t2 : ¬ (20000 : Int) < (S.size : Int) + 2 := by omega
          go_wp2_with fail
          go_ret2
          exact ⟨ret_sbb HYh.out.1 HYh.out.2, hbr0⟩
        · rw [if_neg hle] at HY
          have HYh := Lib.hid HY
          clear HY HYES
          have t1 : decide ((20000 : Int) < (S.size : Int) + 2) = true := by rw [decide_eq_true_iff]; omega
          have t2 : (20000 : Int) < (S.size : Int) + 2 := by omega
          go_wp2_with fail
          go_ret2
          exact ⟨ret_sbb HYh.out.1 HYh.out.2, hbr0⟩
end

end Go.Proofs.Ythdcgplocdehjaa
