/- The walk of TieLots. -/
import Derived.Test.YthplbhgbgcfogaaT20
namespace Go.Proofs.Ythplbhgbgcfogaa
open Go.RowKit Go.Proofs.Kit Go.Proofs.Nums

theorem lots_pack {vt vl : Value} {who : List Int} {code : Int} {n : Nat} {w : World} (ht : IntsAt w vt (tiedS n who)) (hl : IntsAt w vl (permS n code)) (h1 : 1 ≤ n) (h7 : n ≤ 7) :
    (∀ w' vM M, Below w.heap.size w w' → RoundsAt w' vM M → Calls Try.prog 13 #[.int .i64 3, vM, vt, vl, .bool true] w' fun e w'' => e = .returned (.tuple #[.int .i64 (lastS (tiedS n who) (permS n code)), .bool (decide (1 < (tiedS n who).length))]) ∧ Below w'.heap.size w' w'') ∧
      (∀ w', Below w.heap.size w w' → Calls Try.prog 13 #[.int .i64 3, .slice none 0 0, vt, vl, .bool false] w' fun e w'' => e = .returned (.tuple #[.int .i64 (firstS (tiedS n who) (permS n code)), .bool (decide (1 < (tiedS n who).length))]) ∧ Below w'.heap.size w' w'') := by
  have v3 := made_valid h1 h7 who code (rule := 3) (by omega) (by omega)
  obtain ⟨_, ⟨_, hnd⟩, hne, ⟨hb, _⟩, _⟩ := (valid_eq _ _ _).1 v3
  have hsub : ∀ x ∈ tiedS n who, x ∈ permS n code := fun x hx => perm_mem.2 (by have := hb x hx; rw [perm_len] at this; exact this)
  refine ⟨fun w' vM M hbw hM => ?_, fun w' hbw => ?_⟩
  · have := tbreak_c hM (ht.keep hbw) (hl.keep hbw) 3 true
    rw [break_lot v3, last_pick hnd hne hsub] at this
    exact this
  · have := tbreak_c (show RoundsAt w' (.slice none 0 0) [] from SliceOf.nil w') (ht.keep hbw) (hl.keep hbw) 3 false
    rw [break_lot v3, first_pick hnd (fun x hx => (hb x hx).1) hne hsub] at this
    exact this

set_option maxRecDepth 100000 in
set_option maxHeartbeats 4000000 in
theorem walk_TieLots {ve vt : Value} {L : List (List Int)} {who : List Int} {w : World} (hL : GridAt w ve L) (den : Int) (ht : IntsAt w vt who) (n code : Int) (hc1 : -9223372036854775808 ≤ code) (hc2 : code ≤ 9223372036854775807) :
    Calls Try.prog 5 #[ve, .int .i64 den, vt, .int .i64 n, .int .i64 code] w fun e w' => e = .returned (.bool true) ∧ Below w.heap.size w w' := by
  have AW := Lib.hid awake_c
  have RD : Hid (∀ w', Below w.heap.size w w' → Calls Try.prog 12 #[ve, .int .i64 den] w' fun e w'' => ∃ v', e = .returned v' ∧ (∃ M, M.length ≤ 6 ∧ RoundsAt w'' v' M) ∧ Below w'.heap.size w' w'') := Lib.hid (fun w' hb => rounds_s (hL.keep hb) den)
  have HT := Lib.hid ht
  obtain ⟨n1, e1, n1a, n1b⟩ := mod_one n 7 (by omega)
  have M7 : Hid (∀ w, Calls Try.prog 9 #[.int .i64 n, .int .i64 7] w fun e w' => e = .returned (.int .i64 (n % 7)) ∧ w = w') := Lib.hid (fun w => mod_c n 7 (by omega) (by omega) w)
  obtain ⟨a7, ha7⟩ : ∃ x, n % 7 = x := ⟨_, rfl⟩
  rw [ha7] at M7
  have e1' : (1 : Int) + a7 = (n1 : Int) := by rw [← ha7]; exact e1
  have x1 : IntKind.i64.wrap (n1 : Int) = (n1 : Int) := w64 (by omega) (by omega)
  have TI : Hid (∀ w', Below w.heap.size w w' → Calls Try.prog 10 #[.int .i64 n1, vt] w' fun e w'' => ∃ v', e = .returned v' ∧ IntsAt w'' v' (tiedS n1 who) ∧ Below w'.heap.size w' w'') := Lib.hid (fun w' hb => tied_c (HT.out.keep hb) n1 n1a (by omega))
  have PE : Hid (∀ w', Calls Try.prog 11 #[.int .i64 n1, .int .i64 code] w' fun e w'' => ∃ v', e = .returned v' ∧ IntsAt w'' v' (permS n1 code) ∧ Fresh w'.heap.size v' ∧ Below w'.heap.size w' w'') := Lib.hid (fun w' => perm_x n1 (by omega) code hc1 hc2 w')
  have PK := Lib.hid (fun vt vl w h1 h2 => @lots_pack vt vl who code n1 w h1 h2 n1a n1b)
  have HPL := Lib.hid (perm_len n1 code)
  have HT0 : Hid (∀ x ∈ tiedS n1 who, 0 ≤ x) := Lib.hid (by
    rcases tied_bal n1a who with ⟨g, _⟩ | g
    · exact fun x hx => (g.1 x hx).1
    · omega)
  obtain ⟨ti, hti⟩ : ∃ x, tiedS n1 who = x := ⟨_, rfl⟩
  obtain ⟨pe, hpe⟩ : ∃ x, permS n1 code = x := ⟨_, rfl⟩
  rw [hti] at TI PK HT0
  rw [hpe] at PE PK HPL
  obtain ⟨nt, hnt⟩ : ∃ x, ti.length = x := ⟨_, rfl⟩
  obtain ⟨d, hd⟩ : ∃ d, decide (1 < nt) = d := ⟨_, rfl⟩
  rw [hnt, hd] at PK
  have HD := Lib.hid hd
  have HNT := Lib.hid hnt
  clear e1 ha7 hti hpe ht hL hd hnt
  go_enter Try.func5, Try.ntmps5
  go_wp2_with (first
    | (go_at_call 9; ((with_reducible refine (M7.out _).mono ?_); rintro e w9 ⟨rfl, rfl⟩))
    | (go_at_call 10; ((with_reducible refine (TI.out _ (Below.refl _ _)).mono ?_); rintro e w5 ⟨v5, rfl, ht5, hb5⟩))
    | (go_at_call 11; ((with_reducible refine (PE.out _).mono ?_); rintro e w6 ⟨v6, rfl, hl6, _, hb6⟩; have hB6 := bel2' hb5 hb6; have ht6 := ht5.keep hb6; obtain ⟨P1, P2⟩ := PK.out _ _ _ ht6 hl6; have P1 := Lib.hid P1; have P2 := Lib.hid P2))
    | (go_at_call 12; ((with_reducible refine (RD.out _ hB6).mono ?_); rintro e w3 ⟨v3, rfl, ⟨M, hM6, hM⟩, hb3⟩; have hB3 := bel2' hB6 hb3))
    | (go_at_call 13; ((with_reducible refine (P1.out _ _ _ hb3 hM).mono ?_); rintro e w7 ⟨rfl, hb7⟩; have hB7 := bel2' hB3 hb7; have hr7 := bel2' hb3 hb7))
    | (go_at_call 13; ((with_reducible refine (P2.out _ hr7).mono ?_); rintro e w8 ⟨rfl, hb8⟩; have hB8 := bel2' hB7 hb8; have hr8 := bel2' hr7 hb8; have HT8 := Lib.hid (ht6.keep hr8); have HL8 := Lib.hid (hl6.keep hr8); obtain ⟨p5, c5, rfl⟩ := ht6.shape; obtain ⟨p6, c6, rfl⟩ := hl6.shape)))
  rw [HNT.out] at HT8
  rw [HPL.out] at HL8
  rw [HNT.out, HPL.out]
  clear ht5 ht6 hl6
  obtain ⟨F, hF⟩ : ∃ x, firstS ti pe = x := ⟨_, rfl⟩
  obtain ⟨T, hT⟩ : ∃ x, lastS ti pe = x := ⟨_, rfl⟩
  rw [hF, hT]
  have HF := Lib.hid hF
  have HTT := Lib.hid hT
  clear hF hT
  go_loopw [17, 18, 19] (fun fv lv iv wr => ∃ k : Nat, ∃ f l : Int, k ≤ n1 ∧ iv = .int .i64 k ∧ fv = .int .i64 f ∧ lv = .int .i64 l ∧ Below w8.heap.size w8 wr ∧ Hid (f = firstS ti (pe.take k) ∧ l = lastS ti (pe.take k))) (fun _ _ iv _ => n1 - (intOf iv).toNat)
  case atStart => exact ⟨0, -1, -1, by omega, rfl, rfl, rfl, Below.refl _ _, Lib.hid ⟨by simp [firstS], by simp [lastS]⟩⟩
  case round =>
    obtain ⟨k, f, l, hk, rfl, rfl, rfl, hbel, hP⟩ := hrel
    have hbw := bel2' hB8 hbel
    by_cases hkn : k < n1
    · have hkz : (k : Int) < (n1 : Int) := by omega
      obtain ⟨bb, off, hp0, _, _, hcell⟩ := (HL8.out.keep hbel).cellAt k (by rw [HPL.out]; exact hkn)
      subst hp0
      obtain ⟨y, hy⟩ : ∃ y, pe.getD k 0 = y := ⟨_, rfl⟩
      rw [hy] at hcell
      have HS1 := Lib.hid (last_snoc (tied := ti) (by rw [HPL.out]; exact hkn) hy)
      have HS2 := Lib.hid (first_snoc (tied := ti) (by rw [HPL.out]; exact hkn) hy HT0.out)
      have HH := Lib.hid (has_c (HT8.out.keep hbel) y)
      clear hy
      cases hh : hasB ti y
      · rw [hh] at HH HS1 HS2
        have HX : Hid (f = firstS ti (pe.take (k + 1)) ∧ l = lastS ti (pe.take (k + 1))) := Lib.hid ⟨by rw [HS2.out, hP.out.1]; rfl, by rw [HS1.out, hP.out.2]; rfl⟩
        clear hh
        go_wp2_with (go_at_call 17; ((with_reducible refine (HH.out).mono ?_); rintro e w11 ⟨rfl, rfl⟩))
        go_roundw
        case rel => exact ⟨k + 1, f, l, by omega, by go_num, rfl, rfl, hbel, HX⟩
        case measure => simp [intOf] <;> omega
      · rw [hh] at HH HS1 HS2
        rw [if_pos rfl, ← hP.out.1] at HS2
        rw [if_pos rfl] at HS1
        clear hh
        by_cases hf0 : f < 0
        · rw [if_pos hf0] at HS2
          have HX : Hid (y = firstS ti (pe.take (k + 1)) ∧ y = lastS ti (pe.take (k + 1))) := Lib.hid ⟨HS2.out.symm, HS1.out.symm⟩
          go_wp2_with (go_at_call 17; ((with_reducible refine (HH.out).mono ?_); rintro e w11 ⟨rfl, rfl⟩))
          go_roundw
          case rel => exact ⟨k + 1, y, y, by omega, by go_num, rfl, rfl, hbel, HX⟩
          case measure => simp [intOf] <;> omega
        · rw [if_neg hf0] at HS2
          have HX : Hid (f = firstS ti (pe.take (k + 1)) ∧ y = lastS ti (pe.take (k + 1))) := Lib.hid ⟨HS2.out.symm, HS1.out.symm⟩
          go_wp2_with (go_at_call 17; ((with_reducible refine (HH.out).mono ?_); rintro e w11 ⟨rfl, rfl⟩))
          go_roundw
          case rel => exact ⟨k + 1, f, y, by omega, by go_num, rfl, rfl, hbel, HX⟩
          case measure => simp [intOf] <;> omega
    · have hkz : ¬ (k : Int) < (n1 : Int) := by omega
      have hE := hP.out
      rw [List.take_of_length_le (by rw [HPL.out]; omega), HF.out, HTT.out] at hE
      obtain ⟨rfl, rfl⟩ := hE
      cases d
      · have z1 : ¬ (1 : Int) < (nt : Int) := by have := of_decide_eq_false HD.out; omega
        have z2 : decide ((1 : Int) < (nt : Int)) = false := by simp only [decide_eq_false_iff_not]; exact z1
        go_wp2_with (go_at_call 8; ((with_reducible refine (AW.out _).mono ?_); rintro e w10 ⟨rfl, hb10⟩; have hB10 := bel2' hbw hb10))
        go_ret
        exact ⟨rfl, hB10⟩
      · have z1 : (1 : Int) < (nt : Int) := by have := of_decide_eq_true HD.out; omega
        go_wp2_with (go_at_call 8; ((with_reducible refine (AW.out _).mono ?_); rintro e w10 ⟨rfl, hb10⟩; have hB10 := bel2' hbw hb10))
        go_ret
        exact ⟨rfl, hB10⟩

end Go.Proofs.Ythplbhgbgcfogaa
