/- The rounds that the laws make. -/
import Derived.Test.YthplbhgbgcfogaaT13
import Derived.Test.YthplbhgbgcfogaaT15
import Derived.Test.YthplbhgbgcfogaaR12b
namespace Go.Proofs.Nums
theorem len_small {n : Nat} (h : n < 1024) : (bitsN n).length ≤ 10 := bits_len_le n 10 h
end Go.Proofs.Nums
namespace Go.Proofs.Ythplbhgbgcfogaa
open Go.RowKit Go.Proofs.Kit Go.Proofs.Nums

/-- Orders that come to one end are one goal. -/
theorem one_goal {P G : Prop} (r : Hid P → G) (t : P) : G := r (Lib.hid t)
theorem own_shp {w : World} {base : Nat} {e : TypeId} {size : Nat} {v : Value} {n : Nat} {cs : List Value} (h : w.ownsRow base e size v n cs) : ∃ p c, v = .slice p n c ∧ n ≤ c ∧ c ≤ 9223372036854775807 := by
  rcases h.2 with ⟨rfl, hn⟩ | ⟨g, cap, cur, rfl, _, _, hc, hm, _⟩
  · exact ⟨none, 0, by rw [hn], by omega, by omega⟩
  · exact ⟨_, cap, rfl, hc, by unfold maxLen at hm; omega⟩
theorem Below.three3 {w w' : World} {b : Nat} {x y z : Value} (hb : Below w.heap.size w w') (h : w.cell? ⟨b, 0, none⟩ = some x ∧ w.cell? ⟨b, 1, none⟩ = some y ∧ w.cell? ⟨b, 2, none⟩ = some z) : w'.cell? ⟨b, 0, none⟩ = some x ∧ w'.cell? ⟨b, 1, none⟩ = some y ∧ w'.cell? ⟨b, 2, none⟩ = some z := ⟨cell_keep hb h.1, cell_keep hb h.2.1, cell_keep hb h.2.2⟩
/-- The one cell of a list of lists: its row. -/
def rowI (w : World) (c : List Value) (l : List Int) : Prop := ∃ u, c = [u] ∧ IntsAt w u l
def GridAt (w : World) (v : Value) (L : List (List Int)) : Prop := SliceOf rowI 1 w v L
theorem GridAt.keep {w w' : World} {v : Value} {L : List (List Int)} (h : GridAt w v L) (hb : Below w.heap.size w w') : GridAt w' v L := SliceOf.keep h hb fun _ _ ⟨u, h1, h2⟩ => ⟨u, h1, h2.keep hb⟩
theorem GridAt.shp {w : World} {v : Value} {L : List (List Int)} (h : GridAt w v L) : ∃ p c, v = .slice p L.length c := by
  obtain ⟨p, c, h1, _⟩ := SliceOf.shape h
  exact ⟨p, c, h1⟩
theorem GridAt.cellAt {w : World} {p : Option Addr} {n c : Nat} {L : List (List Int)} (h : GridAt w (.slice p n c) L) {k : Nat} (hk : k < L.length) {v : List Int} (hv : L.getD k [] = v) :
    ∃ b off u, p = some ⟨b, off, none⟩ ∧ L.length ≤ c ∧ c ≤ 9223372036854775807 ∧ w.cell? ⟨b, off + k, none⟩ = some u ∧ IntsAt w u v := by
  obtain ⟨b, off, cap, cs, hv2, h1, h2, h3, h4, h5⟩ := SliceOf.at_ (by decide) h hk
  simp only [Value.slice.injEq] at hv2
  obtain ⟨rfl, _, rfl⟩ := hv2
  have e : L[k] = v := by rw [← hv, List.getD_eq_getElem?_getD, List.getElem?_eq_getElem hk]; rfl
  rw [e] at h4
  obtain ⟨u, rfl, g⟩ := h4
  have := h5 0 u rfl
  rw [Nat.mul_one, Nat.add_zero] at this
  exact ⟨b, off, u, rfl, h1, h2, this, g⟩
/-- A row of rows of Ratios under construction. -/
abbrev LLst (B : Nat) (v : Value) (w : World) (L : List (List Q)) (css : List (List Value)) : Prop := Lst rowR B B 34 1 v w L css

/-- What is returned: a number that the reference holds, with small parts. -/
def SmallQ (q : Q) : Prop := q.neg = false ∧ q.n < 100 ∧ q.d < 100
theorem of_s (n : Nat) (hn : n < 10) (w : World) :
    Calls Try.prog 23 #[.int .i64 n] w fun e w' => ∃ p l k p' l' k', e = .returned (.agg #[.bool false, .slice p l k, .slice p' l' k']) ∧ RAt w' (.agg #[.bool false, .slice p l k, .slice p' l' k']) (Q.mk' false n 1) ∧ Below w.heap.size w w' := by
  refine (rof_r (z := n) (by omega) (by omega)).mono ?_
  rintro e w' ⟨v, rfl, h, hb⟩
  have hq : Q.of (n : Int) = Q.mk' false n 1 := by
    unfold Q.of
    rw [show decide ((n : Int) < 0) = false by simp, Int.natAbs_natCast]
  rw [hq] at h
  obtain ⟨p, l, k, p', l', k', rfl, g⟩ := h.at.shape
  have h2 := h.at
  rw [mk'_pos] at h2 ⊢
  exact ⟨_, _, _, _, _, _, rfl, h2, hb⟩
theorem div_s {va vb : Value} {a b : Nat} {w : World} (ha : RAt w va (Q.mk' false a 1)) (hb : RAt w vb (Q.mk' false b 1)) (h1 : a < 10) (h2 : b < 10) :
    Calls Try.prog 25 #[va, vb] w fun e w' => ∃ p l k p' l' k', e = .returned (.agg #[.bool false, .slice p l k, .slice p' l' k']) ∧ RAt w' (.agg #[.bool false, .slice p l k, .slice p' l' k']) (Q.divR (Q.mk' false a 1) (Q.mk' false b 1)) ∧ Below w.heap.size w w' := by
  have s1 := mk'_lt (neg := false) (a := a) (b := 1) (M := 10) h1 (by omega) (by omega)
  have s2 := mk'_lt (neg := false) (a := b) (b := 1) (M := 10) h2 (by omega) (by omega)
  refine (rdiv_r ha hb ⟨Nat.le_trans (len_small (by omega)) (by omega), Nat.le_trans (len_small (by omega)) (by omega)⟩ ⟨Nat.le_trans (len_small (by omega)) (by omega), Nat.le_trans (len_small (by omega)) (by omega)⟩).mono ?_
  rintro e w' ⟨v, rfl, h, hb⟩
  have hn : (Q.divR (Q.mk' false a 1) (Q.mk' false b 1)).neg = false := by
    unfold Q.divR
    rw [mk'_pos, mk'_pos]
    exact mk'_pos
  obtain ⟨p, l, k, p', l', k', rfl, g⟩ := h.at.shape
  have h2 := h.at
  rw [hn] at h2 ⊢
  exact ⟨_, _, _, _, _, _, rfl, h2, hb⟩
theorem divR_small {a b : Nat} (h1 : a < 10) (h2 : b < 10) : ShQ (Q.divR (Q.mk' false a 1) (Q.mk' false b 1)) := by
  have s1 := mk'_lt (neg := false) (a := a) (b := 1) (M := 10) h1 (by omega) (by omega)
  have s2 := mk'_lt (neg := false) (a := b) (b := 1) (M := 10) h2 (by omega) (by omega)
  unfold Q.divR
  rw [mk'_pos, mk'_pos]
  refine ShQ.frac ?_ ?_
  · exact Nat.lt_of_lt_of_le (Nat.mul_lt_mul'' s1.1 s2.2) (by omega)
  · exact Nat.lt_of_lt_of_le (Nat.mul_lt_mul'' s1.2 s2.1) (by omega)
theorem to_s {v : Value} {q : Q} {w : World} (h : RAt w v q) (hs : ShQ q) :
    Calls Try.prog 24 #[v] w fun e w' => ∃ p l k p' l' k', e = .returned (.agg #[.bool false, .slice p l k, .slice p' l' k']) ∧ Made w.heap.size (fun w => ratR w [.bool false, .slice p l k, .slice p' l' k'] q) w' ∧ Below w.heap.size w w' := by
  refine (rto_f h (L := 2) (by omega) (Nat.lt_trans hs.2.2.1 (by decide)) (Nat.lt_trans hs.2.2.2 (by decide))).mono ?_
  rintro e w' ⟨v', rfl, h1, h2, hb⟩
  have h3 := h1
  obtain ⟨p, l, k, p', l', k', rfl, _, _⟩ := h1.shape
  rw [hs.2.1] at h3 h2 ⊢
  exact ⟨_, _, _, _, _, _, rfl, ratR_made h3 hs h2.1 h2.2, hb⟩

set_option maxRecDepth 100000 in
set_option maxHeartbeats 8000000 in
theorem rounds_c {v : Value} {L : List (List Int)} {w : World} (hv : GridAt w v L) (den : Int) :
    Calls Try.prog 12 #[v, .int .i64 den] w fun e w' => ∃ v', e = .returned v' ∧ (∃ M, M.length ≤ 6 ∧ ∃ css, LLst w.heap.size v' w' M css) ∧ Below w.heap.size w w' := by
  have HV := Lib.hid hv
  have hlm := SliceOf.len hv
  obtain ⟨p, c, rfl⟩ := hv.shp
  obtain ⟨len, hlen⟩ : ∃ n, L.length = n := ⟨_, rfl⟩
  have HN := Lib.hid hlen
  rw [hlen] at HV hlm ⊢
  have M5 : Hid (∀ x w, Calls Try.prog 9 #[.int .i64 x, .int .i64 5] w fun e w' => e = .returned (.int .i64 (x % 5)) ∧ w = w') := Lib.hid (fun x w => mod_c x 5 (by omega) (by omega) w)
  have M3 : Hid (∀ x w, Calls Try.prog 9 #[.int .i64 x, .int .i64 3] w fun e w' => e = .returned (.int .i64 (x % 3)) ∧ w = w') := Lib.hid (fun x w => mod_c x 3 (by omega) (by omega) w)
  clear hv hlen
  go_enter Try.func12, Try.ntmps12
  go_wp2_with fail
  go_loopw [5, 6] (fun ov iv wr => ∃ k : Nat, ∃ M : List (List Q), ∃ css, k ≤ len ∧ k ≤ 6 ∧ M.length = k ∧ iv = .int .i64 k ∧ Below w.heap.size w wr ∧ Hid (LLst w.heap.size ov wr M css)) (fun _ iv _ => len - (intOf iv).toNat)
  case atStart => exact ⟨0, [], [], by omega, by omega, rfl, rfl, Below.refl _ _, Lib.hid (Lst.nil _)⟩
  case round =>
    obtain ⟨k, M, css, hk, hk6, hMk, rfl, hbel, hL⟩ := hrel
    obtain ⟨wo, rfl⟩ : ∃ x, x = wr := ⟨_, rfl⟩
    by_cases hlt : k < len ∧ k < 6
    · obtain ⟨hlt1, hlt2⟩ := hlt
      have hz1 : (k : Int) < (len : Int) := by omega
      have hz2 : (k : Int) < 6 := by omega
      obtain ⟨r, hr⟩ : ∃ r, L.getD k [] = r := ⟨_, rfl⟩
      obtain ⟨bb, off, u, hp0, hc1, hc2, hcell, hrow⟩ := (HV.out.keep hbel).cellAt (k := k) (by rw [HN.out]; exact hlt1) hr
      subst hp0
      have HR := Lib.hid hrow
      have hrl := hrow.len
      obtain ⟨p2, c2, rfl⟩ := hrow.shape
      obtain ⟨rl, hrln⟩ : ∃ n, r.length = n := ⟨_, rfl⟩
      have HRN := Lib.hid hrln
      rw [hrln] at HR hrl hcell
      have HCE := Lib.hid hcell
      clear hr hrow hrln
      go_wp2_with fail
      go_loopw [7, 8] (fun ov jv wq => ∃ j : Nat, ∃ qs : List Q, ∃ cs2, j ≤ rl ∧ j ≤ 7 ∧ qs.length = j ∧ jv = .int .i64 j ∧ Below wo.heap.size wo wq ∧ Hid (RLst wo.heap.size ov wq qs cs2)) (fun _ jv _ => rl - (intOf jv).toNat)
      case atStart => exact ⟨0, [], [], by omega, by omega, rfl, rfl, Below.refl _ _, Lib.hid (Lst.nil _)⟩
      case round =>
        obtain ⟨j, qs, cs2, hj, hj7, hqj, rfl, hbq, hR⟩ := hrel
        have hbelq := bel2' hbel hbq
        have hcellk := cell_keep hbq HCE.out
        by_cases hjl : j < rl ∧ j < 7
        · obtain ⟨hj1, hj2⟩ := hjl
          have hjz1 : (j : Int) < (rl : Int) := by omega
          have hjz2 : (j : Int) < 7 := by omega
          obtain ⟨bb2, off2, hp2, _, _, hcellj⟩ := (HR.out.keep hbq).cellAt j (by rw [HRN.out]; exact hj1)
          subst hp2
          obtain ⟨x, hx⟩ : ∃ y, r.getD j 0 = y := ⟨_, rfl⟩
          rw [hx] at hcellj
          obtain ⟨xm, hxm⟩ : ∃ m : Nat, x % 5 = m := ⟨(x % 5).toNat, by omega⟩
          have hxm5 : xm < 10 := by omega
          have MX : Hid (∀ w, Calls Try.prog 9 #[.int .i64 x, .int .i64 5] w fun e w' => e = .returned (.int .i64 xm) ∧ w = w') := Lib.hid (fun w => by rw [← hxm]; exact M5.out x w)
          obtain ⟨y, hy⟩ : ∃ y, IntKind.i64.wrap (den + (j : Int)) = y := ⟨_, rfl⟩
          obtain ⟨ym, hym⟩ : ∃ m : Nat, y % 3 = m := ⟨(y % 3).toNat, by omega⟩
          have MY : Hid (∀ w, Calls Try.prog 9 #[.int .i64 y, .int .i64 3] w fun e w' => e = .returned (.int .i64 ym) ∧ w = w') := Lib.hid (fun w => by rw [← hym]; exact M3.out y w)
          obtain ⟨y1, hy1⟩ : ∃ y1 : Nat, ym + 1 = y1 := ⟨_, rfl⟩
          have ey1 : (1 : Int) + (ym : Int) = (y1 : Int) := by omega
          have ey2 : IntKind.i64.wrap (y1 : Int) = (y1 : Int) := w64 (by omega) (by omega)
          have hy10 : y1 < 10 := by omega
          have OX : Hid (∀ w, Calls Try.prog 23 #[.int .i64 xm] w fun e w' => ∃ p l k p' l' k', e = .returned (.agg #[.bool false, .slice p l k, .slice p' l' k']) ∧ RAt w' (.agg #[.bool false, .slice p l k, .slice p' l' k']) (Q.mk' false xm 1) ∧ Below w.heap.size w w') := Lib.hid (fun w => of_s xm hxm5 w)
          have OY : Hid (∀ w, Calls Try.prog 23 #[.int .i64 y1] w fun e w' => ∃ p l k p' l' k', e = .returned (.agg #[.bool false, .slice p l k, .slice p' l' k']) ∧ RAt w' (.agg #[.bool false, .slice p l k, .slice p' l' k']) (Q.mk' false y1 1) ∧ Below w.heap.size w w') := Lib.hid (fun w => of_s y1 hy10 w)
          have DV : Hid (∀ w va vb, RAt w va (Q.mk' false xm 1) → RAt w vb (Q.mk' false y1 1) → Calls Try.prog 25 #[va, vb] w fun e w' => ∃ p l k p' l' k', e = .returned (.agg #[.bool false, .slice p l k, .slice p' l' k']) ∧ RAt w' (.agg #[.bool false, .slice p l k, .slice p' l' k']) (Q.divR (Q.mk' false xm 1) (Q.mk' false y1 1)) ∧ Below w.heap.size w w') := Lib.hid (fun w va vb h1 h2 => div_s h1 h2 hxm5 hy10)
          have HSH := Lib.hid (divR_small hxm5 hy10)
          obtain ⟨q, hq⟩ : ∃ q, Q.divR (Q.mk' false xm 1) (Q.mk' false y1 1) = q := ⟨_, rfl⟩
          rw [hq] at DV HSH
          obtain ⟨q1, hq1⟩ : ∃ q, Q.mk' false xm 1 = q := ⟨_, rfl⟩
          obtain ⟨q2, hq2⟩ : ∃ q, Q.mk' false y1 1 = q := ⟨_, rfl⟩
          rw [hq1] at DV OX
          rw [hq2] at DV OY
          have TOC : Hid (∀ w v, RAt w v q → Calls Try.prog 24 #[v] w fun e w' => ∃ p l k p' l' k', e = .returned (.agg #[.bool false, .slice p l k, .slice p' l' k']) ∧ Made w.heap.size (fun w => ratR w [.bool false, .slice p l k, .slice p' l' k'] q) w' ∧ Below w.heap.size w w') := Lib.hid (fun w v h => to_s h HSH.out)
          clear hx hxm hym hy1 hq hq1 hq2 hxm5 hy10
          go_wp2_with (first
            | (go_at_call 9; ((with_reducible refine (MX.out _).mono ?_); rintro e w9 ⟨rfl, rfl⟩))
            | (go_at_call 23; ((with_reducible refine (OX.out _).mono ?_); rintro e w1 ⟨p3, l3, k3, p4, l4, k4, rfl, hra, hb1⟩)))
          have bW0 := Blk.new w1 #[.bool false, .slice p3 l3 k3, .slice p4 l4 k4] 51
          have bW1 : Below w1.heap.size w1 (w1.alloc (.cells #[.bool false, .slice p3 l3 k3, .slice p4 l4 k4] 51)) := (Below.refl _ _).alloc (Nat.le_refl _) _
          revert bW0 bW1
          generalize w1.alloc (.cells #[.bool false, .slice p3 l3 k3, .slice p4 l4 k4] 51) = W
          intro bW0 bW1
          have hrW := hra.keep (bW1.drew)
          have BWq := bel2' hb1 bW1.drew
          have BWo := bel2' hbq BWq
          have S0 := Lib.hid (Blk.three bW0.drew)
          have hRW := Lib.hid (hR.out.keep BWq)
          obtain ⟨s0, s1, s2⟩ := S0.out
          clear bW0 bW1 hra hb1
          go_region_law (first
            | (refine step_append_lst erQ (by rfl) (by rfl) (hRW.out.keep (bal B4 _)) (by rfl) (by rfl) (c := [.bool false, .slice p9 l9 k9, .slice p10 l10 k10]) (fun j u h => alloc_cell _ _ _ _ j u (by simpa using h)) (by rfl) (by simp [Value.oneCell']) (by omega) (by omega) (Nat.le_trans hBo4.size (by simp)) (y := q) (Lst.fresh_elt (hRW.out.keep (bel2' hb2 hb3)) (hmd.keep (bal (Below.refl _ _) _)) hBo3.size) ?_; intro v' w5 hL5 hb5 _ _; have HL5 := Lib.hid hL5; have hB5 := (bal hBo4 _).trans hb5; clear hL5)
            | (go_simp; go_wp2_with (first
              | (go_at_call 9; ((with_reducible refine (MY.out _).mono ?_); rintro e w9 ⟨rfl, rfl⟩))
              | (go_at_call 23; ((with_reducible refine (OY.out _).mono ?_); rintro e w2 ⟨p5, l5, k5, p6, l6, k6, rfl, hrb, hb2⟩; have hra2 := hrW.keep hb2; obtain ⟨s3, s4, s5⟩ := Below.three3 hb2 S0.out))
              | (go_at_call 25; ((with_reducible refine (DV.out _ _ _ hra2 hrb).mono ?_); rintro e w3 ⟨p7, l7, k7, p8, l8, k8, rfl, hrd, hb3⟩))
              | (go_at_call 24; ((with_reducible refine (TOC.out _ _ hrd).mono ?_); rintro e w4 ⟨p9, l9, k9, p10, l10, k10, rfl, hmd, hb4⟩; have B4 := bel2' hb2 (bel2' hb3 hb4); have hBo3 := bel2' BWo (bel2' hb2 hb3); have hBo4 := bel2' hBo3 hb4)))))
          all_goals
            go_wp2_with fail
            go_roundw
            case rel => exact ⟨j + 1, _, _, by omega, by omega, by simp [hqj], by go_num, hB5, HL5⟩
            case measure => simp [intOf] <;> omega
        · obtain ⟨p9, c9, rfl, _, _⟩ := own_shp hR.out.own
          subst hqj
          have HM := Lib.hid (Lst.made hR.out (Nat.le_refl _) (Nat.le_refl _))
          have HL2 := Lib.hid (hL.out.keep hbq)
          have HE := Lib.hid (Lst.fresh_elt hL.out (HM.out.imp fun w' g => (⟨_, rfl, g⟩ : rowR w' [_] qs)) hbel.size)
          by_cases hj1 : qs.length < rl
          · have hjz1 : (qs.length : Int) < (rl : Int) := by omega
            have hjz2 : ¬ (qs.length : Int) < 7 := by omega
            go_wp2_with (at_builtin; go_must (refine append_lst erRR rfl rfl HL2.out rfl rfl rfl (by simp [Value.oneCell']) (by omega) (by omega) hbelq.size HE.out ?_); intro v' w4 hL4 hb4 hg4 hv4; have HL4 := Lib.hid hL4; clear hL4)
            go_roundw
            case rel => exact ⟨k + 1, _, _, by omega, by omega, by simp [hMk], by go_num, hbelq.trans hb4, HL4⟩
            case measure => simp [intOf] <;> omega
          · have hjz1 : ¬ (qs.length : Int) < (rl : Int) := by omega
            go_wp2_with (at_builtin; go_must (refine append_lst erRR rfl rfl HL2.out rfl rfl rfl (by simp [Value.oneCell']) (by omega) (by omega) hbelq.size HE.out ?_); intro v' w4 hL4 hb4 hg4 hv4; have HL4 := Lib.hid hL4; clear hL4)
            go_roundw
            case rel => exact ⟨k + 1, _, _, by omega, by omega, by simp [hMk], by go_num, hbelq.trans hb4, HL4⟩
            case measure => simp [intOf] <;> omega
    · by_cases hlt1 : k < len
      · have hz1 : (k : Int) < (len : Int) := by omega
        have hz2 : ¬ (k : Int) < 6 := by omega
        go_wp2_with fail
        go_ret
        exact ⟨_, rfl, ⟨M, by omega, css, hL.out⟩, hbel⟩
      · have hz1 : ¬ (k : Int) < (len : Int) := by omega
        go_wp2_with fail
        go_ret
        exact ⟨_, rfl, ⟨M, by omega, css, hL.out⟩, hbel⟩

end Go.Proofs.Ythplbhgbgcfogaa
