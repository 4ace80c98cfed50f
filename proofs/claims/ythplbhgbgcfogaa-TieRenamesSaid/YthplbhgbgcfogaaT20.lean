/- The walks of TieReverses and TieLots. -/
import Derived.Test.YthplbhgbgcfogaaT19
namespace Go.Proofs.Ythplbhgbgcfogaa
open Go.RowKit Go.Proofs.Kit Go.Proofs.Nums

theorem RoundsAt.shs {w : World} {v : Value} {M : List (List Q)} (h : RoundsAt w v M) : ∀ r ∈ M, Shs r := by
  intro r hr
  obtain ⟨p, c, rfl⟩ := h.shp
  obtain ⟨i, hi, he⟩ := List.mem_iff_getElem.1 hr
  obtain ⟨_, _, u, _, _, _, _, g⟩ := h.cellAt hi (v := r) (by rw [List.getD_eq_getElem?_getD, List.getElem?_eq_getElem hi, he]; rfl)
  exact g.shs
/-- A row of a list of rows that was made: its cell, and the blocks that it is read off. -/
theorem LLst.cellOn {B : Nat} {v : Value} {w : World} {M : List (List Q)} {css : List (List Value)} (h : LLst B v w M css) {k : Nat} (hk : k < M.length) {q : List Q} (hq : M.getD k [] = q) :
    ∃ g cap u, v = .slice (some ⟨g, 0, none⟩) M.length cap ∧ M.length ≤ cap ∧ cap ≤ 9223372036854775807 ∧ w.cell? ⟨g, k, none⟩ = some u ∧ On (fun b => b < w.heap.size) (fun w => rowR w [u] q) w := by
  have hkc : k < css.length := by rw [h.len]; exact hk
  have hc := List.getElem?_eq_getElem hkc
  have hlen := h.siz _ (List.getElem_mem hkc)
  obtain ⟨u, hu⟩ := List.length_eq_one_iff.1 hlen
  rw [hu] at hc
  have hx : M[k]? = some q := by
    rw [← hq, List.getD_eq_getElem?_getD, List.getElem?_eq_getElem hk]; rfl
  have hel := h.elt k [u] q hc hx
  rcases h.own.2 with ⟨_, hn⟩ | ⟨g, cap, cur, rfl, hg, hgg, hcc, hm, hs, ht⟩
  · omega
  · refine ⟨g, cap, u, rfl, hcc, by unfold maxLen at hm; omega, ?_, On.mono hel fun b hb => hb.2.1⟩
    have hf := flat_at (j := 0) h.siz hc rfl
    rw [cell_of_row w g k cur 34 (0, 0) hgg]
    rw [← ht, List.getElem?_take] at hf
    split at hf
    · simpa using hf
    · simp at hf

/-- Both ways round break a tie alike. -/
theorem rev_pack {vt vl : Value} {who : List Int} {code : Int} {n : Nat} {w : World} (ht : IntsAt w vt (tiedS n who)) (hl : IntsAt w vl (permS n code)) (h1 : 1 ≤ n) (h7 : n ≤ 7) (least : Bool) {M : List (List Q)} (hs : ∀ r ∈ M, Shs r) :
    ∃ x y, (∀ w' vM, Below w.heap.size w w' → RoundsAt w' vM M → Calls Try.prog 13 #[.int .i64 1, vM, vt, vl, .bool least] w' fun e w'' => e = .returned (.tuple #[.int .i64 x, .bool y]) ∧ Below w'.heap.size w' w'') ∧
      (∀ w' vM, Below w.heap.size w w' → RoundsAt w' vM M.reverse → Calls Try.prog 13 #[.int .i64 2, vM, vt, vl, .bool least] w' fun e w'' => e = .returned (.tuple #[.int .i64 x, .bool y]) ∧ Below w'.heap.size w' w'') ∧
      (∀ w', Below w.heap.size w w' → Calls Try.prog 17 #[vt, .int .i64 x] w' fun e w'' => e = .returned (.bool true) ∧ w' = w'') := by
  have v1 := made_valid h1 h7 who code (rule := 1) (by omega) (by omega)
  have v2 := made_valid h1 h7 who code (rule := 2) (by omega) (by omega)
  refine ⟨(breakS 1 M (tiedS n who) (permS n code) least).1, (breakS 1 M (tiedS n who) (permS n code) least).2, fun _ _ hb hM => tbreak_c hM (ht.keep hb) (hl.keep hb) 1 least, fun _ _ hb hM => ?_, fun _ hb => ?_⟩
  · rw [break_rev v1 v2]
    exact tbreak_c hM (ht.keep hb) (hl.keep hb) 2 least
  · have := has_c (ht.keep hb) (breakS 1 M (tiedS n who) (permS n code) least).1
    rw [hasB_true.2 (break_mem v1 hs)] at this
    exact this

set_option maxRecDepth 100000 in
set_option maxHeartbeats 4000000 in
theorem walk_TieReverses {ve vt : Value} {L : List (List Int)} {who : List Int} {w : World} (hL : GridAt w ve L) (den : Int) (ht : IntsAt w vt who) (n code : Int) (hc1 : -9223372036854775808 ≤ code) (hc2 : code ≤ 9223372036854775807) (least : Bool) :
    Calls Try.prog 4 #[ve, .int .i64 den, vt, .int .i64 n, .int .i64 code, .bool least] w fun e w' => e = .returned (.bool true) ∧ Below w.heap.size w w' := by
  have AW := Lib.hid awake_c
  have RD : Hid (Calls Try.prog 12 #[ve, .int .i64 den] w fun e w' => ∃ v', e = .returned v' ∧ (∃ M, M.length ≤ 6 ∧ ∃ css, LLst w.heap.size v' w' M css) ∧ Below w.heap.size w w') := Lib.hid (rounds_c hL den)
  have HT := Lib.hid ht
  obtain ⟨n1, e1, n1a, n1b⟩ := mod_one n 7 (by omega)
  have M7 : Hid (∀ w, Calls Try.prog 9 #[.int .i64 n, .int .i64 7] w fun e w' => e = .returned (.int .i64 (n % 7)) ∧ w = w') := Lib.hid (fun w => mod_c n 7 (by omega) (by omega) w)
  obtain ⟨a7, ha7⟩ : ∃ x, n % 7 = x := ⟨_, rfl⟩
  rw [ha7] at M7
  have e1' : (1 : Int) + a7 = (n1 : Int) := by rw [← ha7]; exact e1
  have x1 : IntKind.i64.wrap (n1 : Int) = (n1 : Int) := w64 (by omega) (by omega)
  have TI : Hid (∀ w', Below w.heap.size w w' → Calls Try.prog 10 #[.int .i64 n1, vt] w' fun e w'' => ∃ v', e = .returned v' ∧ IntsAt w'' v' (tiedS n1 who) ∧ Below w'.heap.size w' w'') := Lib.hid (fun w' hb => tied_c (HT.out.keep hb) n1 n1a (by omega))
  have PE : Hid (∀ w', Calls Try.prog 11 #[.int .i64 n1, .int .i64 code] w' fun e w'' => ∃ v', e = .returned v' ∧ IntsAt w'' v' (permS n1 code) ∧ Fresh w'.heap.size v' ∧ Below w'.heap.size w' w'') := Lib.hid (fun w' => perm_x n1 (by omega) code hc1 hc2 w')
  have PK : Hid (∀ vt vl w M, IntsAt w vt (tiedS n1 who) → IntsAt w vl (permS n1 code) → (∀ r ∈ M, Shs r) → ∃ x y, (∀ w' vM, Below w.heap.size w w' → RoundsAt w' vM M → Calls Try.prog 13 #[.int .i64 1, vM, vt, vl, .bool least] w' fun e w'' => e = .returned (.tuple #[.int .i64 x, .bool y]) ∧ Below w'.heap.size w' w'') ∧
      (∀ w' vM, Below w.heap.size w w' → RoundsAt w' vM M.reverse → Calls Try.prog 13 #[.int .i64 2, vM, vt, vl, .bool least] w' fun e w'' => e = .returned (.tuple #[.int .i64 x, .bool y]) ∧ Below w'.heap.size w' w'') ∧
      (∀ w', Below w.heap.size w w' → Calls Try.prog 17 #[vt, .int .i64 x] w' fun e w'' => e = .returned (.bool true) ∧ w' = w'')) := Lib.hid (fun vt vl w M h1 h2 h3 => rev_pack h1 h2 n1a n1b least h3)
  obtain ⟨ti, hti⟩ : ∃ x, tiedS n1 who = x := ⟨_, rfl⟩
  obtain ⟨pe, hpe⟩ : ∃ x, permS n1 code = x := ⟨_, rfl⟩
  rw [hti] at TI PK
  rw [hpe] at PE PK
  clear e1 ha7 hti hpe ht hL
  go_enter Try.func4, Try.ntmps4
  go_wp2_with (first
    | (go_at_call 9; ((with_reducible refine (M7.out _).mono ?_); rintro e w9 ⟨rfl, rfl⟩))
    | (go_at_call 12; ((with_reducible refine (RD.out).mono ?_); rintro e w3 ⟨v3, rfl, ⟨M, hM6, css, hLM⟩, hb3⟩; obtain ⟨p3, c3, rfl⟩ := RoundsAt.shp hLM.slice; have HLM := Lib.hid hLM; clear hLM; obtain ⟨m, hm⟩ : ∃ m, M.length = m := ⟨_, rfl⟩; have HM := Lib.hid hm; rw [hm] at hM6 HLM; rw [hm]; clear hm; have s1 : IntKind.i64.wrap ((m : Int) - 1) = (m : Int) - 1 := w64 (by omega) (by omega))))
  go_loopw [14, 15] (fun bv iv wr => ∃ k : Nat, ∃ z : Int, ∃ Lb css, k ≤ m ∧ z + 1 + k = m ∧ iv = .int .i64 z ∧ Lb.length = k ∧ Below w3.heap.size w3 wr ∧ Hid (Lst rowR 0 w3.heap.size 34 1 bv wr Lb css) ∧ Hid (Lb = M.reverse.take k)) (fun _ iv _ => (intOf iv + 1).toNat)
  case atStart => exact ⟨0, (m : Int) - 1, [], [], by omega, by omega, rfl, rfl, Below.refl _ _, Lib.hid (Lst.nil _), Lib.hid rfl⟩
  case round =>
    obtain ⟨k, z, Lb, cb, hk, hz, rfl, hLb, hbel, hB, hQ⟩ := hrel
    have hbw := bel2' hb3 hbel
    by_cases hkm : k < m
    · obtain ⟨j, hj⟩ : ∃ j : Nat, z = j := ⟨z.toNat, by omega⟩
      subst hj
      obtain ⟨q, hq⟩ : ∃ q, M.getD j [] = q := ⟨_, rfl⟩
      obtain ⟨g, cap, u, hv, hc1', hc2', hcell, hOn⟩ := HLM.out.cellOn (k := j) (by rw [HM.out]; omega) hq
      rw [HM.out] at hv hc1'
      simp only [Value.slice.injEq, true_and] at hv
      obtain ⟨rfl, rfl⟩ := hv
      have hcellr := cell_keep hbel hcell
      have HRV := Lib.hid (rev_get (l := M) (k := k) (j := j) (d := []) (by rw [HM.out]; omega))
      have HS : Hid (Lb ++ [q] = M.reverse.take (k + 1)) := Lib.hid (by
        rw [hQ.out, List.take_succ_eq_append_getElem (by rw [List.length_reverse, HM.out]; exact hkm)]
        congr 2
        have e := HRV.out
        rw [hq, List.getD_eq_getElem?_getD, List.getElem?_eq_getElem (by rw [List.length_reverse, HM.out]; exact hkm)] at e
        exact e.symm)
      have HE := Lib.hid (On.mono (G := fun b => 0 ≤ b ∧ b < wr.heap.size ∧ u14.ownBlock ≠ some b) (On.step hOn fun b hb => hbel.block b hb) fun b hb => ⟨Nat.zero_le _, Nat.lt_of_lt_of_le hb hbel.size, fun e => by have := (hB.out.lt b e).1; omega⟩)
      have jz : (0 : Int) ≤ (j : Int) := by omega
      have hjm : (j : Int) < (m : Int) := by omega
      have jw : IntKind.i64.wrap ((j : Int) - 1) = (j : Int) - 1 := w64 (by omega) (by omega)
      have hsz := hbel.size
      obtain ⟨p5, l5, c5, rfl⟩ : ∃ p l c, u = .slice p l c := by
        obtain ⟨u', e, hr⟩ := hOn.now
        obtain rfl := (List.cons.inj e).1
        exact hr.sl
      clear hq hOn hcell
      go_wp2_with (at_builtin; go_must (refine append_lst erRR rfl rfl hB.out rfl rfl rfl (by simp [Value.oneCell']) (by omega) (by omega) hsz HE.out ?_); intro v' w4 hL4 hb4 hg4 hv4; have HL4 := Lib.hid hL4; clear hL4)
      go_roundw
      case rel => exact ⟨k + 1, (j : Int) - 1, _, _, by omega, by omega, rfl, by simp [hLb], hbel.trans hb4, HL4, HS⟩
      case measure => simp [intOf] <;> omega
    · have jz : ¬ (0 : Int) ≤ z := by omega
      have HMr : Hid (RoundsAt wr (.slice p3 m c3) M) := Lib.hid (by rw [← HM.out] at HLM ⊢; exact (show RoundsAt w3 _ M from HLM.out.slice).keep hbel)
      have HBr : Hid (RoundsAt wr u14 M.reverse) := Lib.hid (by
        have e : Lb = M.reverse := by rw [hQ.out, List.take_of_length_le (by rw [List.length_reverse, HM.out]; omega)]
        rw [← e]; exact hB.out.slice)
      go_wp2_with (first
        | (go_at_call 10; ((with_reducible refine (TI.out _ hbw).mono ?_); rintro e w5 ⟨v5, rfl, ht5, hb5⟩; have hB5 := bel2' hbw hb5))
        | (go_at_call 11; ((with_reducible refine (PE.out _).mono ?_); rintro e w6 ⟨v6, rfl, hl6, _, hb6⟩; have hB6 := bel2' hB5 hb6; have hr6 := bel2' hb5 hb6; have ht6 := ht5.keep hb6; obtain ⟨x, y, P1, P2, P3⟩ := PK.out _ _ _ M ht6 hl6 HMr.out.shs; have P1 := Lib.hid P1; have P2 := Lib.hid P2; have P3 := Lib.hid P3))
        | (go_at_call 13; ((with_reducible refine (P1.out _ _ (Below.refl _ _) (HMr.out.keep hr6)).mono ?_); rintro e w7 ⟨rfl, hb7⟩; have hB7 := bel2' hB6 hb7; have hr7 := bel2' hr6 hb7))
        | (go_at_call 13; ((with_reducible refine (P2.out _ _ hb7 (HBr.out.keep hr7)).mono ?_); rintro e w8 ⟨rfl, hb8⟩; have hB8 := bel2' hB7 hb8; have hr8 := bel2' hb7 hb8))
        | (go_at_call 8; ((with_reducible refine (AW.out _).mono ?_); rintro e w10 ⟨rfl, hb10⟩; have hB10 := bel2' hB8 hb10; have hr10 := bel2' hr8 hb10))
        | (go_at_call 17; ((with_reducible refine (P3.out _ hr10).mono ?_); rintro e w11 ⟨rfl, rfl⟩)))
      go_ret
      exact ⟨rfl, hB10⟩

end Go.Proofs.Ythplbhgbgcfogaa
