/- The walk of TieDecides, its end. -/
import Derived.Test.YthplbhgbgcfogaaT22
namespace Go.Proofs.Ythplbhgbgcfogaa
open Go.RowKit Go.Proofs.Kit Go.Proofs.Nums

theorem mod_two (x : Int) (m : Nat) (h : 1 ≤ m) : ∃ k : Nat, 2 + x % (m : Int) = (k : Int) ∧ 2 ≤ k ∧ k ≤ m + 1 := by
  have h1 := Int.emod_nonneg x (b := (m : Int)) (by omega)
  have h2 := Int.emod_lt_of_pos x (b := (m : Int)) (by omega)
  exact ⟨(2 + x % (m : Int)).toNat, by omega, by omega, by omega⟩
theorem dec_one {vt vl vM : Value} {who : List Int} {code : Int} {n x : Nat} {w w' : World} {o : List Int} {M : List (List Q)} (h1 : 1 ≤ n) (h7 : n ≤ 7) (hx : (x : Int) ∈ tiedS n who) (ht : IntsAt w vt (tiedS n who)) (hl : IntsAt w vl (permS n code)) (ho : OneOff o n x 2 3) (hb : Below w.heap.size w w') (hM : RoundsAt w' vM (M ++ [wholesS o])) :
    Calls Try.prog 13 #[.int .i64 1, vM, vt, vl, .bool true] w' fun e w'' => e = .returned (.tuple #[.int .i64 x, .bool false]) ∧ Below w'.heap.size w' w'' := by
  have v1 := made_valid h1 h7 who code (rule := 1) (by omega) (by omega)
  have hbal := ((valid_eq _ _ _).1 v1).2.2.2.1
  rw [perm_len] at hbal
  have hr : roundsS 1 (M ++ [wholesS o]) = wholesS o :: M.reverse := by
    show (M ++ [wholesS o]).reverse = _
    rw [List.reverse_append]; rfl
  have := tbreak_c hM (ht.keep hb) (hl.keep hb) 1 true
  rw [decides v1 (by rw [hr]; exact decide_left ho hbal hx (by decide +kernel))] at this
  exact this
theorem dec_two {vt vl vM : Value} {who : List Int} {code : Int} {n x : Nat} {w w' : World} {o : List Int} {M : List (List Q)} (h1 : 1 ≤ n) (h7 : n ≤ 7) (hx : (x : Int) ∈ tiedS n who) (ht : IntsAt w vt (tiedS n who)) (hl : IntsAt w vl (permS n code)) (ho : OneOff o n x 4 3) (hb : Below w.heap.size w w') (hM : RoundsAt w' vM (wholesS o :: M)) :
    Calls Try.prog 13 #[.int .i64 2, vM, vt, vl, .bool false] w' fun e w'' => e = .returned (.tuple #[.int .i64 x, .bool false]) ∧ Below w'.heap.size w' w'' := by
  have v1 := made_valid h1 h7 who code (rule := 2) (by omega) (by omega)
  have hbal := ((valid_eq _ _ _).1 v1).2.2.2.1
  rw [perm_len] at hbal
  have := tbreak_c hM (ht.keep hb) (hl.keep hb) 2 false
  rw [decides v1 (by
    show leftS false (wholesS o :: M) (tiedS n who) = _
    exact decide_left ho hbal hx (by decide +kernel))] at this
  exact this
theorem oneOff_range {o : List Int} {n x : Nat} {a b : Int} (h : OneOff o n x a b) (ha : 0 ≤ a ∧ a ≤ 10) (hb : 0 ≤ b ∧ b ≤ 10) : ∀ y ∈ o, 0 ≤ y ∧ y ≤ 1000000 := by
  intro y hy
  obtain ⟨i, hi, he⟩ := List.mem_iff_getElem.1 hy
  have := h.2 i (by rw [← h.1]; exact hi)
  rw [List.getD_eq_getElem?_getD, List.getElem?_eq_getElem hi] at this
  simp only [Option.getD_some] at this
  rw [he] at this
  split at this <;> omega
theorem wholes_own {w : World} {base g n : Nat} {o : List Int} (h : OwnInt w base g n o) (hr : ∀ y ∈ o, 0 ≤ y ∧ y ≤ 1000000) (hn : n ≤ 7) :
    Calls Try.prog 18 #[.slice (some ⟨g, 0, none⟩) n n] w fun e w' => ∃ v', e = .returned v' ∧ (∃ css, RLst w.heap.size v' w' (wholesS o) css) ∧ Below w.heap.size w w' :=
  wholes_c h.read hr (by rw [h.1]; omega)

set_option maxRecDepth 100000 in
set_option maxHeartbeats 8000000 in
theorem walk_TieDecides {ve vt : Value} {L : List (List Int)} {who : List Int} {w : World} (hL : GridAt w ve L) (den : Int) (ht : IntsAt w vt who) (n code : Int) (hc1 : -9223372036854775808 ≤ code) (hc2 : code ≤ 9223372036854775807) (low : Int) :
    Calls Try.prog 6 #[ve, .int .i64 den, vt, .int .i64 n, .int .i64 code, .int .i64 low] w fun e w' => e = .returned (.bool true) ∧ Below w.heap.size w w' := by
  have AW := Lib.hid awake_c
  have RD : Hid (∀ w', Below w.heap.size w w' → Calls Try.prog 12 #[ve, .int .i64 den] w' fun e w'' => ∃ v', e = .returned v' ∧ (∃ M, M.length ≤ 6 ∧ ∃ css, LLst w'.heap.size v' w'' M css) ∧ Below w'.heap.size w' w'') := Lib.hid (fun w' hb => rounds_c (hL.keep hb) den)
  have HT := Lib.hid ht
  obtain ⟨n1, e1, n1a, n1b⟩ := mod_two n 6 (by omega)
  have M6 : Hid (∀ w, Calls Try.prog 9 #[.int .i64 n, .int .i64 6] w fun e w' => e = .returned (.int .i64 (n % 6)) ∧ w = w') := Lib.hid (fun w => mod_c n 6 (by omega) (by omega) w)
  obtain ⟨a7, ha7⟩ : ∃ x, n % 6 = x := ⟨_, rfl⟩
  rw [ha7] at M6
  have e1' : (2 : Int) + a7 = (n1 : Int) := by rw [← ha7]; exact e1
  have x1 : IntKind.i64.wrap (n1 : Int) = (n1 : Int) := w64 (by omega) (by omega)
  have TI : Hid (∀ w', Below w.heap.size w w' → Calls Try.prog 10 #[.int .i64 n1, vt] w' fun e w'' => ∃ v', e = .returned v' ∧ IntsAt w'' v' (tiedS n1 who) ∧ Below w'.heap.size w' w'') := Lib.hid (fun w' hb => tied_c (HT.out.keep hb) n1 (by omega) (by omega))
  have PE : Hid (∀ w', Calls Try.prog 11 #[.int .i64 n1, .int .i64 code] w' fun e w'' => ∃ v', e = .returned v' ∧ IntsAt w'' v' (permS n1 code) ∧ Fresh w'.heap.size v' ∧ Below w'.heap.size w' w'') := Lib.hid (fun w' => perm_x n1 (by omega) code hc1 hc2 w')
  have D1 := Lib.hid (fun vt vl vM x w w' o M => @dec_one vt vl vM who code n1 x w w' o M (by omega) (by omega))
  have D2 := Lib.hid (fun vt vl vM x w w' o M => @dec_two vt vl vM who code n1 x w w' o M (by omega) (by omega))
  obtain ⟨hT1, hT2⟩ : BalP n1 (tiedS n1 who) ∧ tiedS n1 who ≠ [] := by
    rcases tied_bal (n := n1) (by omega) who with g | g
    · exact g
    · omega
  have hT3 : (tiedS n1 who).length ≤ n1 := nodup_len _ _ hT1.2 hT1.1
  obtain ⟨ti, hti⟩ : ∃ x, tiedS n1 who = x := ⟨_, rfl⟩
  obtain ⟨pe, hpe⟩ : ∃ x, permS n1 code = x := ⟨_, rfl⟩
  rw [hti] at TI D1 D2 hT1 hT2 hT3
  rw [hpe] at PE D1 D2
  obtain ⟨nt, hnt⟩ : ∃ x, ti.length = x := ⟨_, rfl⟩
  have hnt0 : 1 ≤ nt := by rw [← hnt]; exact List.length_pos_iff.2 hT2
  rw [hnt] at hT3
  obtain ⟨ln, hln⟩ : ∃ k : Nat, low % (nt : Int) = (k : Int) := ⟨(low % (nt : Int)).toNat, by have := Int.emod_nonneg low (b := (nt : Int)) (by omega); omega⟩
  have hlnt : ln < nt := by have := Int.emod_lt_of_pos low (b := (nt : Int)) (by omega); omega
  have ML : Hid (∀ w, Calls Try.prog 9 #[.int .i64 low, .int .i64 nt] w fun e w' => e = .returned (.int .i64 ln) ∧ w = w') := Lib.hid (fun w => by rw [← hln]; exact mod_c low nt (by omega) (by omega) w)
  obtain ⟨xv, hxv⟩ : ∃ x, ti.getD ln 0 = x := ⟨_, rfl⟩
  have hxm : xv ∈ ti := mem_getD (by rw [hnt]; exact hlnt) hxv
  have hxb := hT1.1 xv hxm
  obtain ⟨xn, hxn⟩ : ∃ k : Nat, xv = k := ⟨xv.toNat, by omega⟩
  subst hxn
  have hxlt : xn < n1 := by omega
  have HXM := Lib.hid hxm
  have HXV := Lib.hid hxv
  have HNT := Lib.hid hnt
  have lz : (ln : Int) < (nt : Int) := by omega
  have xz : (xn : Int) < (n1 : Int) := by omega
  clear e1 ha7 hti hpe ht hL hnt hT1 hT2 hxm hxv hxb hln
  go_enter Try.func6, Try.ntmps6
  go_wp2_with (first
    | (go_at_call 9; ((with_reducible refine (M6.out _).mono ?_); rintro e w9 ⟨rfl, rfl⟩))
    | (go_at_call 9; ((with_reducible refine (ML.out _).mono ?_); rintro e w9 ⟨rfl, rfl⟩))
    | (go_at_call 10; ((with_reducible refine (TI.out _ (Below.refl _ _)).mono ?_); rintro e w5 ⟨v5, rfl, ht5, hb5⟩))
    | (go_at_call 11; ((with_reducible refine (PE.out _).mono ?_); rintro e w6 ⟨v6, rfl, hl6, _, hb6⟩; have hB6 := bel2' hb5 hb6; have HT6 := Lib.hid (ht5.keep hb6); have HL6 := Lib.hid hl6; obtain ⟨p5, c5, rfl⟩ := ht5.shape; clear ht5 hl6; obtain ⟨b5, o5, hp5, _, _, hcell5⟩ := HT6.out.cellAt ln (by rw [HNT.out]; exact hlnt); subst hp5; rw [HNT.out] at HT6; rw [HXV.out] at hcell5; rw [HNT.out]))
    | (at_make; go_must (refine make_any erI rfl rfl rfl rfl (by omega) (by omega) (by omega) ?_); intro w7 hown7 hb7))
  rw [show ((n1 : Int)).toNat = n1 by omega] at *
  have own7 := OwnInt.made hown7
  clear hown7
  go_loopw [17] (fun iv wr => ∃ k : Nat, ∃ o : List Int, k ≤ n1 ∧ iv = .int .i64 k ∧ OwnInt wr w6.heap.size w6.heap.size n1 o ∧ Below w6.heap.size w6 wr ∧ Hid (∀ j, j < k → o.getD j 0 = 3)) (fun iv _ => n1 - (intOf iv).toNat)
  case atStart => exact ⟨0, _, by omega, rfl, own7, hb7, Lib.hid (fun j hj => by omega)⟩
  case round =>
    obtain ⟨k, o, hk, rfl, hO, hbel, hP⟩ := hrel
    by_cases hkn : k < n1
    · have hkz : (k : Int) < (n1 : Int) := by omega
      have hcell := hO.cell hkn
      have hfree := hO.free k
      have hput := hO.put k 3
      have HS : Hid (∀ j, j < k + 1 → (o.set k 3).getD j 0 = 3) := Lib.hid (fun j hj => by
        rw [List.getD_eq_getElem?_getD, List.getElem?_set]
        by_cases e : k = j
        · rw [if_pos e, if_pos (by rw [hO.1]; omega)]; rfl
        · rw [if_neg e]
          have := hP.out j (by omega)
          rw [List.getD_eq_getElem?_getD] at this
          exact this)
      go_wp2_with fail
      go_roundw
      case rel => exact ⟨k + 1, _, by omega, by go_num, hput.1, hbel.trans hput.2, HS⟩
      case measure => simp [intOf] <;> omega
    · have hkz : ¬ (k : Int) < (n1 : Int) := by omega
      have hcell := hO.cell hxlt
      have hfree := hO.free xn
      have hput := hO.put xn 2
      have H2 := Lib.hid (oneOff_set (c := 2) (show OneOff o n1 xn 3 3 from ⟨hO.1, fun j hj => by rw [hP.out j (by omega)]; split <;> rfl⟩) hxlt)
      obtain ⟨o2, ho2⟩ : ∃ x, o.set xn 2 = x := ⟨_, rfl⟩
      rw [ho2] at H2 hput
      have H4 := Lib.hid (oneOff_set (c := 4) H2.out hxlt)
      have hOwn2 := Lib.hid hput.1
      have BW := hbel.trans hput.2
      have hBW := bel2' hB6 BW
      have hs6 : w6.heap.size ≤ (wr.setCell ⟨w6.heap.size, xn, none⟩ (.int .i64 2)).heap.size := BW.size
      clear hput ho2
      obtain ⟨wo, rfl⟩ : ∃ x, x = wr := ⟨_, rfl⟩
      go_wp2_with (first
        | (go_at_call 12; ((with_reducible refine (RD.out _ hBW).mono ?_); rintro e w8 ⟨v8, rfl, ⟨M, hM6, css, hL8⟩, hb8⟩; have HL8 := Lib.hid hL8; clear hL8))
        | (go_at_call 18; ((with_reducible refine (wholes_own (hOwn2.out.keep hb8) (oneOff_range H2.out (by omega) (by omega)) (by omega)).mono ?_); rintro e w9 ⟨v9, rfl, ⟨cs9, hR9⟩, hb9⟩; obtain ⟨p9, n9, c9, rfl⟩ := RatsAt.sl (show RatsAt w9 v9 _ from hR9.slice); have HE9 := Lib.hid (Lst.fresh_elt HL8.out ((Lst.made hR9 (Nat.le_refl _) (Nat.le_refl _)).imp fun w' g => (⟨_, rfl, g⟩ : rowR w' [_] _)) hb8.size); have HL9 := Lib.hid (HL8.out.keep hb9); have hb89 := bel2' hb8 hb9; have hs89 := hb89.size; clear hR9))
        | (at_builtin; go_must (refine append_lst erRR rfl rfl HL9.out rfl rfl rfl (by simp [Value.oneCell']) (by omega) (by omega) hs89 HE9.out ?_); intro v10 w10 hL10 hb10 _ _; have hM10 := Lib.hid (show RoundsAt w10 v10 _ from hL10.slice); have hb810 := hb89.trans hb10; clear hL10)
        | (go_at_call 13; ((with_reducible refine (D1.out _ _ _ _ _ _ _ _ HXM.out HT6.out HL6.out H2.out (BW.trans (hb810.mono hs6)) hM10.out).mono ?_); rintro e w11 ⟨rfl, hb11⟩; have hb811 := bel2' hb810 hb11; have hOwn11 := Lib.hid (hOwn2.out.keep hb811); have hcell11 := hOwn11.out.cell hxlt; have hfree11 := hOwn11.out.free xn; have hOwn4 := Lib.hid (hOwn11.out.put xn 4).1; have hB11 := BW.trans (hb811.mono hs6); have BW4 := hB11.trans (hOwn11.out.put xn 4).2; have hBW4 := bel2' hB6 BW4)))
      have hs6' : w6.heap.size ≤ (w11.setCell ⟨w6.heap.size, xn, none⟩ (.int .i64 4)).heap.size := BW4.size
      go_wp2_with (first
        | (go_at_call 18; ((with_reducible refine (wholes_own hOwn4.out (oneOff_range H4.out (by omega) (by omega)) (by omega)).mono ?_); rintro e w12 ⟨v12, rfl, ⟨cs12, hR12⟩, hb12⟩; obtain ⟨p12, n12, c12, rfl⟩ := RatsAt.sl (show RatsAt w12 v12 _ from hR12.slice); have HQ12 := Lib.hid (On.mono (G := fun b => b < w12.heap.size) (Lst.made hR12 (Nat.le_refl _) (Nat.le_refl _)) fun b hb => hb.2); have hBW12 := bel2' hBW4 hb12; have hB12 := bel2' BW4 hb12; have OL := Lib.hid (World.ownsRow_lit (base := w12.heap.size) (e := 34) (size := 1) w12 #[.slice p12 n12 c12] 1 (Nat.le_refl _) (by unfold maxLen; omega) rfl); clear hR12))
        | (go_at_call 12; ((with_reducible refine (RD.out _ (bal hBW12 _)).mono ?_); rintro e w13 ⟨v13, rfl, ⟨M2, hM26, css2, hL13⟩, hb13⟩; have HL13 := Lib.hid hL13; have OL13 := Lib.hid (ownsRow_below OL.out hb13); have hb1213 := bel2' (bal (Below.refl _ _) _) hb13; have HQ13 := Lib.hid (On.step HQ12.out fun b hb => hb1213.block b hb); have hs13 := hb1213.size; have hB13 := bel2' hB12 hb1213; have hBW13 := bel2' hBW12 hb1213; clear hL13))
        | (at_builtin; go_must (refine append_rows (by rfl) (by rfl) OL13.out (by rfl) HL13.out (by rfl) (by simp) HQ13.out hs13 hs13 hM26 ?_); intro v14 w14 hM14 hb14; have HM14 := Lib.hid hM14; have hb14' := hb1213.trans hb14; clear hM14)
        | (go_at_call 13; ((with_reducible refine (D2.out _ _ _ _ _ _ _ _ HXM.out HT6.out HL6.out H4.out (bel2' hB12 hb14') HM14.out).mono ?_); rintro e w15 ⟨rfl, hb15⟩; have hB15 := bel2' (bel2' hBW12 hb14') hb15))
        | (go_at_call 8; ((with_reducible refine (AW.out _).mono ?_); rintro e w16 ⟨rfl, hb16⟩; have hB16 := bel2' hB15 hb16)))
      go_ret
      exact ⟨rfl, hB16⟩

end Go.Proofs.Ythplbhgbgcfogaa
