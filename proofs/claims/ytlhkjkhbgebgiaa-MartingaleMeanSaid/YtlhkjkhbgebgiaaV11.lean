/- electionlaw37.null: overstatements for which the null hypothesis is true. -/
import Derived.Test.YtlhkjkhbgebgiaaV7
import Derived.Test.YtlhkjkhbgebgiaaV10
namespace Go.Proofs.Nums

theorem sumI_rng {l : List Int} {u : Int} (h : ∀ x ∈ l, -u ≤ x ∧ x ≤ u) : -(l.length * u) ≤ sumI id l ∧ sumI id l ≤ l.length * u := by
  have h1 : sumI id l ≤ sumI (fun _ => u) l := sumI_le fun x hx => (h x hx).2
  have h2 : sumI (fun _ => -u) l ≤ sumI id l := sumI_le fun x hx => (h x hx).1
  rw [sumI_const] at h1 h2
  rw [Int.mul_neg] at h2
  exact ⟨h2, h1⟩
theorem sumI_set {l : List Int} {i : Nat} (hi : i < l.length) (x : Int) : sumI id (l.set i x) = sumI id l + (x - l.getD i 0) := by
  induction l generalizing i with
  | nil => simp at hi
  | cons a l ih =>
    cases i with
    | zero => simp [sumI]; omega
    | succ i =>
      have := ih (i := i) (by simp at hi; omega)
      simp only [List.set_cons_succ, sumI, this, List.getD_cons_succ]
      omega
theorem sumI_all {l : List Int} {u : Int} (h : ∀ j, j < l.length → l.getD j 0 = u) : sumI id l = l.length * u := by
  have e : l = List.replicate l.length u := by
    refine List.ext_getElem (by simp) fun i h1 h2 => ?_
    have := h i h1
    rw [List.getD_eq_getElem?_getD, List.getElem?_eq_getElem h1] at this
    simpa using this
  have h2 : sumI id (List.replicate l.length u) = l.length * u := by
    have g : ∀ n : Nat, sumI id (List.replicate n u) = n * u := by
      intro n
      induction n with
      | zero => simp [sumI]
      | succ n ih =>
        rw [List.replicate_succ]
        simp only [sumI, ih]
        rw [show ((n + 1 : Nat) : Int) = (n : Int) + 1 by omega, Int.add_mul]
        simp; omega
    exact g _
  rw [← e] at h2
  exact h2
theorem NullL.mk' {l : List Int} {mg u s m : Int} {n : Nat} (hu : 2 ≤ u) (hu2 : u ≤ 6) (hn : l.length = n) (hn2 : n ≤ 6) (hr : ∀ x ∈ l, -u ≤ x ∧ x ≤ u) (hs : sumI id l = s) (hs1 : 1 ≤ s) (hm : mg = 1 + m % s) : NullL l mg u := by
  have h1 := Int.emod_nonneg m (show s ≠ 0 by omega)
  have h2 := Int.emod_lt_of_pos m (show 0 < s by omega)
  refine ⟨hu, hu2, ?_, by omega, hr, by omega, by omega⟩
  rcases Nat.eq_zero_or_pos l.length with g | g
  · have := List.eq_nil_of_length_eq_zero g
    subst this
    have : (0 : Int) = s := hs
    omega
  · exact g
theorem rng_app {l : List Int} {u x : Int} (h : ∀ x ∈ l, -u ≤ x ∧ x ≤ u) (h1 : -u ≤ x) (h2 : x ≤ u) : ∀ y ∈ l ++ [x], -u ≤ y ∧ y ≤ u := by
  intro y hy
  rcases List.mem_append.1 hy with g | g
  · exact h y g
  · rw [List.mem_singleton.1 g]; exact ⟨h1, h2⟩
theorem rng_set {l : List Int} {u x : Int} {i : Nat} (h : ∀ x ∈ l, -u ≤ x ∧ x ≤ u) (h1 : -u ≤ x) (h2 : x ≤ u) : ∀ y ∈ l.set i x, -u ≤ y ∧ y ≤ u := by
  intro y hy
  rcases List.mem_or_eq_of_mem_set hy with g | g
  · exact h y g
  · rw [g]; exact ⟨h1, h2⟩

end Go.Proofs.Nums
namespace Go.Proofs.Ytlhkjkhbgebgiaa
open Go.RowKit Go.Proofs.Kit Go.Proofs.Nums

/-- A row of integers of the call's own. -/
def OwnI (w : World) (base n : Nat) (v : Value) (o : List Int) : Prop := o.length = n ∧ w.ownsRow base 3 1 v n (o.map (Value.int .i64))
theorem OwnI.read {w : World} {base n : Nat} {v : Value} {o : List Int} (h : OwnI w base n v o) : IntsAt w v o := RowAt.owned h.2
theorem OwnI.keep {w w' : World} {base n : Nat} {v : Value} {o : List Int} (h : OwnI w base n v o) (hb : Below w.heap.size w w') : OwnI w' base n v o := ⟨h.1, ownsRow_below h.2 hb⟩
theorem OwnI.off {w : World} {base n : Nat} {v : Value} {o : List Int} (h : OwnI w base n v o) {b j : Nat} (hb : b < base) (x : Value) : OwnI (w.setCell ⟨b, j, none⟩ x) base n v o := ⟨h.1, ownsRow_setCell_below h.2 (a := ⟨b, j, none⟩) hb x⟩
theorem OwnI.shp {w : World} {base n : Nat} {v : Value} {o : List Int} (h : OwnI w base n v o) (h0 : 0 < n) : ∃ g cap, v = .slice (some ⟨g, 0, none⟩) n cap ∧ n ≤ cap ∧ cap ≤ 9223372036854775807 ∧ base ≤ g := by
  rcases h.2.2 with ⟨_, hz⟩ | ⟨g, cap, cur, rfl, hg, hgg, hc, hm, hs, ht⟩
  · omega
  · exact ⟨g, cap, rfl, hc, by unfold maxLen at hm; omega, hg⟩
theorem OwnI.cell {w : World} {base g n cap : Nat} {o : List Int} (h : OwnI w base n (.slice (some ⟨g, 0, none⟩) n cap) o) {j : Nat} (hj : j < n) : w.cell? ⟨g, j, none⟩ = some (.int .i64 (o.getD j 0)) := by
  have hl : j < o.length := by rw [h.1]; exact hj
  rw [h.2.cellAt j (by omega), List.getElem?_map, List.getD_eq_getElem?_getD, List.getElem?_eq_getElem hl]; rfl
theorem OwnI.free {w : World} {base g n cap : Nat} {o : List Int} (h : OwnI w base n (.slice (some ⟨g, 0, none⟩) n cap) o) (j : Nat) : w.frozen? ⟨g, j, none⟩ = false := h.2.frozenAt j
theorem OwnI.put {w : World} {base g n cap : Nat} {o : List Int} (h : OwnI w base n (.slice (some ⟨g, 0, none⟩) n cap) o) (j : Nat) (x : Int) :
    OwnI (w.setCell ⟨g, j, none⟩ (.int .i64 x)) base n (.slice (some ⟨g, 0, none⟩) n cap) (o.set j x) ∧ Below base w (w.setCell ⟨g, j, none⟩ (.int .i64 x)) := by
  have hs := h.2.stored j (.int .i64 x)
  refine ⟨⟨by rw [List.length_set]; exact h.1, ?_⟩, ?_⟩
  · rw [List.map_set]; exact hs.1
  · exact (Below.refl base w).setCell (h.2.lt g rfl).1 _

set_option maxRecDepth 100000 in
set_option maxHeartbeats 8000000 in
theorem null_c {v : Value} {l0 : List Int} {w : World} (hv : IntsAt w v l0) (upper margin : Int) :
    Calls Try.prog 8 #[v, .int .i64 upper, .int .i64 margin] w fun e w' => ∃ p c, ∃ l : List Int, ∃ mg u, e = .returned (.tuple #[.slice p l.length c, .agg #[.int .i64 l.length, .int .i64 mg, .int .i64 u]]) ∧ NullL l mg u ∧ IntsAt w' (.slice p l.length c) l ∧ Below w.heap.size w w' := by
  have MD := Lib.hid (fun x k (h1 : (1 : Int) ≤ k) (h2 : k ≤ 1000000) w => mod_c x k h1 h2 w)
  obtain ⟨U, hU0, hU1, hU⟩ : ∃ U, 0 ≤ U ∧ U ≤ 4 ∧ U = upper % 5 := ⟨_, by omega, by omega, rfl⟩
  have C5 : Hid (∀ w, Calls Try.prog 16 #[.int .i64 upper, .int .i64 5] w fun e w' => e = .returned (.int .i64 U) ∧ w = w') := Lib.hid (fun w => by rw [hU]; exact MD.out upper 5 (by omega) (by omega) w)
  obtain ⟨u1, hu1⟩ : ∃ x, 2 + U = x := ⟨_, rfl⟩
  have a3 : 2 ≤ u1 := by omega
  have a4 : u1 ≤ 6 := by omega
  obtain ⟨b1, hb1'⟩ : ∃ x, 2 * u1 = x := ⟨_, rfl⟩
  obtain ⟨b2, hb2'⟩ : ∃ x, b1 + 1 = x := ⟨_, rfl⟩
  have b3 : 5 ≤ b2 := by omega
  have b4 : b2 ≤ 13 := by omega
  have HB2 := Lib.hid (show b2 = 2 * u1 + 1 by omega)
  have hlm : l0.length ≤ 9223372036854775807 := by
    obtain ⟨p, c, _, h1, h2, _⟩ := hv
    rw [List.length_map] at h1
    omega
  obtain ⟨p0, c0, rfl⟩ := hv.shape
  obtain ⟨len, hlen⟩ : ∃ k, l0.length = k := ⟨_, rfl⟩
  have HLEN := Lib.hid hlen
  rw [hlen] at hv hlm ⊢
  have BB0 := Blk.new w #[.int .i64 0, .int .i64 0, .int .i64 0] 24
  have hBd0 : Below w.heap.size w (w.alloc (.cells #[.int .i64 0, .int .i64 0, .int .i64 0] 24)) := (Below.refl _ _).alloc (Nat.le_refl _) _
  have hsz0 : w.heap.size < (w.alloc (.cells #[.int .i64 0, .int .i64 0, .int .i64 0] 24)).heap.size := by simp
  have hv0 := hv.keep hBd0
  obtain ⟨W, hW⟩ : ∃ W, w.alloc (.cells #[.int .i64 0, .int .i64 0, .int .i64 0] 24) = W := ⟨_, rfl⟩
  rw [hW] at BB0 hBd0 hsz0 hv0
  have HW := Lib.hid hW
  have BB := Lib.hid BB0
  have HV := Lib.hid hv0
  clear hU hlen hW BB0 hv hv0
  go_enter Try.func8, Try.ntmps8
  go_wp2_with (go_at_call 16; ((with_reducible refine (C5.out _).mono ?_); rintro e w1 ⟨rfl, rfl⟩))
  rw [HW.out]
  go_loopw [9, 10, 11, 12] (fun ov sv iv _ wr => ∃ k : Nat, ∃ l : List Int, ∃ sum : Int, k ≤ len ∧ k ≤ 5 ∧ sv = .int .i64 sum ∧ iv = .int .i64 k ∧ -40 ≤ sum ∧ sum ≤ 40 ∧ Hid (OwnI wr W.heap.size k ov l) ∧ Hid (∀ x ∈ l, -u1 ≤ x ∧ x ≤ u1) ∧ Hid (sumI id l = sum) ∧ Below W.heap.size W wr) (fun _ _ iv _ _ => len - (intOf iv).toNat)
  case atStart => exact ⟨0, [], 0, by omega, by omega, rfl, rfl, by omega, by omega, Lib.hid ⟨rfl, World.ownsRow_nil _ _ _ _⟩, Lib.hid (fun x hx => by simp at hx), Lib.hid rfl, Below.refl _ _⟩
  case round =>
    obtain ⟨k, l, sum, hk, hk5, rfl, rfl, hs1, hs2, hO, hR, hS, hbel⟩ := hrel
    by_cases hlt : k < len ∧ k < 5
    · obtain ⟨hlt1, hlt2⟩ := hlt
      have z1 : (k : Int) < (len : Int) := by omega
      have z2 : (k : Int) < 5 := by omega
      obtain ⟨bb, off, hp0, hc1, hc2, hcell⟩ := (HV.out.keep hbel).cellAt k (by rw [HLEN.out]; exact hlt1)
      subst hp0
      obtain ⟨x, hx⟩ : ∃ x, l0.getD k 0 = x := ⟨_, rfl⟩
      rw [hx] at hcell
      have r1 := Int.emod_nonneg x (show b2 ≠ 0 by omega)
      have r2 := Int.emod_lt_of_pos x (show 0 < b2 by omega)
      obtain ⟨r, hr⟩ : ∃ r, x % b2 = r := ⟨_, rfl⟩
      rw [hr] at r1 r2
      have CZ : Hid (∀ w, Calls Try.prog 16 #[.int .i64 x, .int .i64 b2] w fun e w' => e = .returned (.int .i64 r) ∧ w = w') := Lib.hid (fun w => by rw [← hr]; exact MD.out x b2 (by omega) (by omega) w)
      obtain ⟨o, ho⟩ : ∃ o, r - u1 = o := ⟨_, rfl⟩
      have o1 : -u1 ≤ o := by omega
      have o2 : o ≤ u1 := by omega
      obtain ⟨s2, hs2'⟩ : ∃ x, sum + o = x := ⟨_, rfl⟩
      have HR2 := Lib.hid (rng_app hR.out o1 o2)
      have HS2 : Hid (sumI id (l ++ [o]) = s2) := Lib.hid (by rw [sumI_snoc, hS.out]; exact hs2')
      have hbd : -40 ≤ s2 ∧ s2 ≤ 40 := by
        have g := sumI_rng HR2.out
        rw [HS2.out, List.length_append, hO.out.1] at g
        have g2 : ((k + [o].length : Nat) : Int) * u1 ≤ 6 * 6 := Int.mul_le_mul (by simp; omega) a4 (by omega) (by omega)
        omega
      obtain ⟨bd1, bd2⟩ := hbd
      have hown := hO.out.2
      have hol := hO.out.1
      clear hx hr
      go_wp2_with (first
        | (go_at_call 16; ((with_reducible refine (CZ.out _).mono ?_); rintro e w5 ⟨rfl, rfl⟩))
        | (at_builtin; go_must (refine append_one erI rfl rfl hown rfl rfl rfl (by simp [Value.oneCell']) (by omega) (by omega) hbel.size ?_); intro v' w6 hown6 _ hb6 _; have HO6 : Hid (OwnI w6 W.heap.size (k + 1) v' (l ++ [o])) := Lib.hid ⟨by rw [List.length_append, hol]; rfl, by rw [List.map_append]; exact hown6⟩; clear hown6))
      go_roundw
      case rel => exact ⟨k + 1, l ++ [o], s2, by omega, by omega, rfl, by go_num, bd1, bd2, HO6, HR2, HS2, hbel.trans hb6⟩
      case measure => simp [intOf] <;> omega
    · have hexit : ((k : Int) < (len : Int) ∧ ¬ (k : Int) < 5) ∨ ¬ (k : Int) < (len : Int) := by omega
      rcases hexit with ⟨z1, z2⟩ | z1
      all_goals
        by_cases hs : sum < 1
        · obtain ⟨s2, hs2'⟩ : ∃ x, sum + u1 = x := ⟨_, rfl⟩
          have HR2 := Lib.hid (rng_app hR.out (x := u1) (by omega) (by omega))
          have HS2 : Hid (sumI id (l ++ [u1]) = s2) := Lib.hid (by rw [sumI_snoc, hS.out]; exact hs2')
          have hown := hO.out.2
          have hol := hO.out.1
          obtain ⟨wo, rfl⟩ : ∃ x, x = wr := ⟨_, rfl⟩
          go_wp2_with (at_builtin; go_must (refine append_one erI rfl rfl hown rfl rfl rfl (by simp [Value.oneCell']) (by omega) (by omega) hbel.size ?_); intro v' w6 hown6 _ hb6 _; have HO6 : Hid (OwnI w6 W.heap.size (k + 1) v' (l ++ [u1])) := Lib.hid ⟨by rw [List.length_append, hol]; rfl, by rw [List.map_append]; exact hown6⟩; clear hown6; obtain ⟨g9, cap9, e9, hcap1, hcap2, hg9⟩ := HO6.out.shp (by omega); subst e9; have hB6 := hbel.trans hb6)
          go_loopw [10, 13] (fun sv iv wr => ∃ i : Nat, ∃ l : List Int, ∃ sum : Int, i ≤ k + 1 ∧ sv = .int .i64 sum ∧ iv = .int .i64 i ∧ -40 ≤ sum ∧ sum ≤ 60 ∧ Hid (OwnI wr W.heap.size (k + 1) (.slice (some ⟨g9, 0, none⟩) (k + 1) cap9) l) ∧ Hid (∀ x ∈ l, -u1 ≤ x ∧ x ≤ u1) ∧ Hid (sumI id l = sum) ∧ Hid (∀ j, j < i → l.getD j 0 = u1) ∧ Below W.heap.size W wr) (fun _ iv _ => k + 1 - (intOf iv).toNat)
          case atStart => exact ⟨0, l ++ [u1], s2, by omega, rfl, rfl, by omega, by omega, HO6, HR2, HS2, Lib.hid (fun j hj => by omega), hB6⟩
          case round =>
            obtain ⟨i, l2, sum2, hik, rfl, rfl, hb1, hb2, hO2, hR2, hS2, hA2, hbel2⟩ := hrel
            by_cases hlt : i < k + 1 ∧ sum2 < 1
            · obtain ⟨hlt1, hlt2⟩ := hlt
              have y1 : (i : Int) < (k : Int) + 1 := by omega
              have hcell := hO2.out.cell hlt1
              have hfree := hO2.out.free i
              have hput := hO2.out.put i u1
              obtain ⟨x, hx⟩ : ∃ x, l2.getD i 0 = x := ⟨_, rfl⟩
              rw [hx] at hcell
              obtain ⟨d, hd⟩ : ∃ d, u1 - x = d := ⟨_, rfl⟩
              obtain ⟨s3, hs3⟩ : ∃ y, sum2 + d = y := ⟨_, rfl⟩
              have hxr : -u1 ≤ x ∧ x ≤ u1 := by
                have hl : i < l2.length := by rw [hO2.out.1]; exact hlt1
                have := hR2.out _ (List.getElem_mem hl)
                rw [← hx, List.getD_eq_getElem?_getD, List.getElem?_eq_getElem hl]
                exact this
              obtain ⟨xr1, xr2⟩ := hxr
              have HS3 : Hid (sumI id (l2.set i u1) = s3) := Lib.hid (by rw [sumI_set (by rw [hO2.out.1]; exact hlt1), hS2.out, hx, hd]; exact hs3)
              have HR3 := Lib.hid (rng_set (i := i) hR2.out (x := u1) (by omega) (by omega))
              have HA3 : Hid (∀ j, j < i + 1 → (l2.set i u1).getD j 0 = u1) := Lib.hid (fun j hj => by
                rw [List.getD_eq_getElem?_getD, List.getElem?_set]
                by_cases e : i = j
                · rw [if_pos e, if_pos (by rw [hO2.out.1]; omega)]; rfl
                · rw [if_neg e]
                  have := hA2.out j (by omega)
                  rw [List.getD_eq_getElem?_getD] at this
                  exact this)
              have HP := Lib.hid hput
              clear hx hput
              go_wp2_with fail
              go_roundw
              case rel => exact ⟨i + 1, _, s3, by omega, rfl, by go_num, by omega, by omega, Lib.hid HP.out.1, HR3, HS3, HA3, hbel2.trans HP.out.2⟩
              case measure => simp [intOf] <;> omega
            · have hs1' : 1 ≤ sum2 := by
                by_cases h1 : i < k + 1
                · have : ¬ sum2 < 1 := fun h => hlt ⟨h1, h⟩
                  omega
                · have g := sumI_all (l := l2) (u := u1) (fun j hj => hA2.out j (by rw [hO2.out.1] at hj; omega))
                  rw [hS2.out, hO2.out.1] at g
                  have g2 : 1 * 1 ≤ ((k + 1 : Nat) : Int) * u1 := Int.mul_le_mul (by omega) (by omega) (by omega) (by omega)
                  omega
              have hexit2 : ((i : Int) < (k : Int) + 1 ∧ ¬ sum2 < 1) ∨ ¬ (i : Int) < (k : Int) + 1 := by omega
              rcases hexit2 with ⟨y1, y2⟩ | y1
              all_goals
                have hkp : 0 < (k + 1) := by
                  rcases Nat.eq_zero_or_pos (k + 1) with g | g
                  · have h0 := hO2.out.1
                    rw [g] at h0
                    have h1 := hS2.out
                    rw [List.eq_nil_of_length_eq_zero h0] at h1
                    have : (0 : Int) = sum2 := h1
                    omega
                  · exact g
                obtain ⟨mm, hmm⟩ : ∃ x, margin % sum2 = x := ⟨_, rfl⟩
                have CM : Hid (∀ w, Calls Try.prog 16 #[.int .i64 margin, .int .i64 sum2] w fun e w' => e = .returned (.int .i64 mm) ∧ w = w') := Lib.hid (fun w => by rw [← hmm]; exact MD.out margin sum2 (by omega) (by omega) w)
                have hmb1 := Int.emod_nonneg margin (show sum2 ≠ 0 by omega)
                have hmb2 := Int.emod_lt_of_pos margin (show 0 < sum2 by omega)
                rw [hmm] at hmb1 hmb2
                obtain ⟨m1, hm1⟩ : ∃ x, 1 + mm = x := ⟨_, rfl⟩
                have NU := Lib.hid (NullL.mk' (mg := m1) (m := margin) a3 a4 hO2.out.1 (by omega) hR2.out hS2.out (by omega) (by rw [hmm]; exact hm1.symm))
                have B1 := Lib.hid ((BB.out.keep hbel2).keep ((Below.refl wr.heap.size wr).alloc (o := .cells #[.int .i64 (k + 1), .int .i64 m1, .int .i64 u1] 24) (Nat.le_refl _)))
                have hT := (Blk.new wr #[.int .i64 (k + 1), .int .i64 m1, .int .i64 u1] 24).three
                obtain ⟨t0, t1, t2⟩ := hT
                obtain ⟨q0, q1, q2⟩ := B1.out.three
                obtain ⟨f0, f1, f2⟩ := B1.out.free3
                have hne : ¬ wr.heap.size = w.heap.size := by have := hbel2.size; omega
                have hne2 : ¬ w.heap.size = wr.heap.size := fun h => hne h.symm
                have hBw : Below w.heap.size w wr := hBd0.trans (hbel2.mono (Nat.le_of_lt hsz0))
                have HOA := Lib.hid (hO2.out.keep ((Below.refl wr.heap.size wr).alloc (o := .cells #[.int .i64 (k + 1), .int .i64 m1, .int .i64 u1] 24) (Nat.le_refl _)))
                clear hmm
                go_wp2_with (go_at_call 16; ((with_reducible refine (CM.out _).mono ?_); rintro e w5 ⟨rfl, rfl⟩))
                go_region
                all_goals
                  go_wp2_with fail
                  refine bodyPost_ret (v := .tuple #[.slice (some ⟨g9, 0, none⟩) (k + 1) cap9, .agg #[.int .i64 (k + 1), .int .i64 m1, .int .i64 u1]]) (by simp [results, Try.results8, go_sem, q0, q1, q2]) rfl ?_
                  have HOB := (((HOA.out.off (j := 0) hsz0 (.int .i64 (k + 1))).off (j := 1) hsz0 (.int .i64 m1)).off (j := 2) hsz0 (.int .i64 u1)).keep (Below.refl _ _).drew
                  refine ⟨_, _, l2, m1, u1, by rw [hO2.out.1] <;> rfl, NU.out, by rw [hO2.out.1]; exact HOB.read, ?_⟩
                  exact ((((hBw.alloc hBw.size _).setCell (p := ⟨w.heap.size, 0, none⟩) (Nat.le_refl _) _).setCell (p := ⟨w.heap.size, 1, none⟩) (Nat.le_refl _) _).setCell (p := ⟨w.heap.size, 2, none⟩) (Nat.le_refl _) _).drew
        · have hs' : ¬ sum < 1 := hs
          have hkp : 0 < k := by
            rcases Nat.eq_zero_or_pos k with g | g
            · have h0 := hO.out.1
              rw [g] at h0
              have h1 := hS.out
              rw [List.eq_nil_of_length_eq_zero h0] at h1
              have : (0 : Int) = sum := h1
              omega
            · exact g
          obtain ⟨g9, cap9, e9, _, _, hg9⟩ := hO.out.shp hkp
          subst e9
          obtain ⟨mm, hmm⟩ : ∃ x, margin % sum = x := ⟨_, rfl⟩
          have CM : Hid (∀ w, Calls Try.prog 16 #[.int .i64 margin, .int .i64 sum] w fun e w' => e = .returned (.int .i64 mm) ∧ w = w') := Lib.hid (fun w => by rw [← hmm]; exact MD.out margin sum (by omega) (by omega) w)
          have hmb1 := Int.emod_nonneg margin (show sum ≠ 0 by omega)
          have hmb2 := Int.emod_lt_of_pos margin (show 0 < sum by omega)
          rw [hmm] at hmb1 hmb2
          obtain ⟨m1, hm1⟩ : ∃ x, 1 + mm = x := ⟨_, rfl⟩
          have NU := Lib.hid (NullL.mk' (mg := m1) (m := margin) a3 a4 hO.out.1 (by omega) hR.out hS.out (by omega) (by rw [hmm]; exact hm1.symm))
          have B1 := Lib.hid ((BB.out.keep hbel).keep ((Below.refl wr.heap.size wr).alloc (o := .cells #[.int .i64 k, .int .i64 m1, .int .i64 u1] 24) (Nat.le_refl _)))
          have hT := (Blk.new wr #[.int .i64 k, .int .i64 m1, .int .i64 u1] 24).three
          obtain ⟨t0, t1, t2⟩ := hT
          obtain ⟨q0, q1, q2⟩ := B1.out.three
          obtain ⟨f0, f1, f2⟩ := B1.out.free3
          have hne : ¬ wr.heap.size = w.heap.size := by have := hbel.size; omega
          have hne2 : ¬ w.heap.size = wr.heap.size := fun h => hne h.symm
          have hBw : Below w.heap.size w wr := hBd0.trans (hbel.mono (Nat.le_of_lt hsz0))
          have HOA := Lib.hid (hO.out.keep ((Below.refl wr.heap.size wr).alloc (o := .cells #[.int .i64 k, .int .i64 m1, .int .i64 u1] 24) (Nat.le_refl _)))
          clear hmm
          go_wp2_with (go_at_call 16; ((with_reducible refine (CM.out _).mono ?_); rintro e w5 ⟨rfl, rfl⟩))
          go_region
          all_goals
            go_wp2_with fail
            refine bodyPost_ret (v := .tuple #[.slice (some ⟨g9, 0, none⟩) k cap9, .agg #[.int .i64 k, .int .i64 m1, .int .i64 u1]]) (by simp [results, Try.results8, go_sem, q0, q1, q2]) rfl ?_
            have HOB := (((HOA.out.off (j := 0) hsz0 (.int .i64 k)).off (j := 1) hsz0 (.int .i64 m1)).off (j := 2) hsz0 (.int .i64 u1)).keep (Below.refl _ _).drew
            refine ⟨_, _, l, m1, u1, by rw [hO.out.1], NU.out, by rw [hO.out.1]; exact HOB.read, ?_⟩
            exact ((((hBw.alloc hBw.size _).setCell (p := ⟨w.heap.size, 0, none⟩) (Nat.le_refl _) _).setCell (p := ⟨w.heap.size, 1, none⟩) (Nat.le_refl _) _).setCell (p := ⟨w.heap.size, 2, none⟩) (Nat.le_refl _) _).drew

end Go.Proofs.Ytlhkjkhbgebgiaa
