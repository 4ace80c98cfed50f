/- The walk of MartingaleMean. -/
import Derived.Test.YtlhkjkhbgebgiaaV11
import Derived.Test.YtlhkjkhbgebgiaaV12
namespace Go.Proofs.Nums

theorem run_ok {l : List Int} {mg u : Int} (h : NullL l mg u) {q : List Int} (hq : q ∈ ordS l.length) : ∀ k, k ≤ l.length → (runS l (Mt.new l.length mg u) (q.take k)).Ok ∧ (runS l (Mt.new l.length mg u) (q.take k)).seen = k ∧ (runS l (Mt.new l.length mg u) (q.take k)).n = l.length ∧ (runS l (Mt.new l.length mg u) (q.take k)).u = u := by
  intro k
  induction k with
  | zero =>
    intro _
    rw [List.take_zero]
    have := h.n1
    have := h.n2
    exact ⟨Mt.new_ok (by omega) (by omega) h.u1 h.u2 h.m1 h.sum_le, rfl, rfl, rfl⟩
  | succ k ih =>
    intro hk
    obtain ⟨h1, h2, h3, h4⟩ := ih (by omega)
    have hql := ord_len hq
    rw [run_snoc l _ q (by omega)]
    have hx := mem_upto.1 ((mem_ord.1 hq).mem_iff.1 (show q.getD k 0 ∈ q by
      rw [List.getD_eq_getElem?_getD, List.getElem?_eq_getElem (by omega)]
      exact List.getElem_mem (by omega)))
    have ho := h.rng (l.getD (q.getD k 0).toNat 0) (by
      rw [List.getD_eq_getElem?_getD (l := l), List.getElem?_eq_getElem (by omega)]
      exact List.getElem_mem (by omega))
    refine ⟨Mt.next_ok h1 (by rw [h4]; exact ho.1) (by rw [h4]; exact ho.2) (by rw [h2, h3]; omega), ?_, h3, h4⟩
    show (runS l _ (q.take k)).seen + 1 = _
    rw [h2]; omega
/-- What a step of an order reads. -/
theorem ord_step {l q : List Int} {mg u x : Int} {k : Nat} (h : NullL l mg u) (hq : q ∈ ordS l.length) (hk : k < l.length) (hx : q.getD k 0 = x) : 0 ≤ x ∧ x < l.length ∧ -u ≤ l.getD x.toNat 0 ∧ l.getD x.toNat 0 ≤ u := by
  have hql := ord_len hq
  have hm := mem_upto.1 ((mem_ord.1 hq).mem_iff.1 (show x ∈ q by
    rw [← hx, List.getD_eq_getElem?_getD, List.getElem?_eq_getElem (by omega)]
    exact List.getElem_mem (by omega)))
  have ho := h.rng (l.getD x.toNat 0) (by
    rw [List.getD_eq_getElem?_getD (l := l), List.getElem?_eq_getElem (by omega)]
    exact List.getElem_mem (by omega))
  exact ⟨hm.1, hm.2, ho.1, ho.2⟩
/-- A step of an order, all that its walk asks. -/
theorem ord_go {l q : List Int} {mg u x o : Int} {k n : Nat} (hn : l.length = n) (h : NullL l mg u) (hq : q ∈ ordS n) (hk : k < n) (hx : q.getD k 0 = x) (ho : l.getD x.toNat 0 = o) :
    (runS l (Mt.new n mg u) (q.take k)).Ok ∧ -(runS l (Mt.new n mg u) (q.take k)).u ≤ o ∧ o ≤ (runS l (Mt.new n mg u) (q.take k)).u ∧ (runS l (Mt.new n mg u) (q.take k)).seen < (runS l (Mt.new n mg u) (q.take k)).n ∧ runS l (Mt.new n mg u) (q.take (k + 1)) = (runS l (Mt.new n mg u) (q.take k)).next o := by
  subst hn
  obtain ⟨h1, h2, h3, h4⟩ := run_ok h hq k (by omega)
  obtain ⟨g1, g2, g3, g4⟩ := ord_step h hq hk hx
  rw [ho] at g3 g4
  refine ⟨h1, by rw [h4]; exact g3, by rw [h4]; exact g4, by rw [h2, h3]; omega, ?_⟩
  rw [run_snoc l _ q (by rw [ord_len hq]; exact hk), hx, ho]
theorem sumI_take {α : Type} {f : α → Int} {L : List α} {i : Nat} {q d : α} (hi : i < L.length) (hq : L.getD i d = q) : sumI f (L.take (i + 1)) = sumI f (L.take i) + f q := by
  rw [List.take_succ_eq_append_getElem hi, sumI_snoc, ← hq, List.getD_eq_getElem?_getD, List.getElem?_eq_getElem hi]
  rfl

end Go.Proofs.Nums
namespace Go.Proofs.Ytlhkjkhbgebgiaa
open Go.RowKit Go.Proofs.Kit Go.Proofs.Nums

theorem null_d {v : Value} {l0 : List Int} {w : World} (hv : IntsAt w v l0) (upper margin : Int) :
    Calls Try.prog 8 #[v, .int .i64 upper, .int .i64 margin] w fun e w' => ∃ p c, ∃ n : Nat, ∃ l : List Int, ∃ mg u, e = .returned (.tuple #[.slice p n c, .agg #[.int .i64 n, .int .i64 mg, .int .i64 u]]) ∧ Hid (l.length = n) ∧ Hid (NullL l mg u) ∧ Hid (IntsAt w' (.slice p n c) l) ∧ 1 ≤ n ∧ n ≤ 6 ∧ Below w.heap.size w w' :=
  (null_c hv upper margin).mono (by
    rintro e w' ⟨p, c, l, mg, u, rfl, h1, h2, h3⟩
    exact ⟨p, c, l.length, l, mg, u, rfl, Lib.hid rfl, Lib.hid h1, Lib.hid h2, h1.n1, h1.n2, h3⟩)
theorem orders_d (n : Nat) (hn : n ≤ 6) (w : World) :
    Calls Try.prog 10 #[.int .i64 n] w fun e w' => ∃ p c, ∃ m : Nat, e = .returned (.slice p m c) ∧ Hid ((ordS n).length = m) ∧ m ≤ 720 ∧ Hid (OrdsAt w' (.slice p m c) (ordS n)) ∧ Below w.heap.size w w' :=
  (orders_c n hn w).mono (by
    rintro e w' ⟨v, rfl, h1, h2⟩
    obtain ⟨p, c, rfl⟩ := h1.shp
    exact ⟨p, c, _, rfl, Lib.hid rfl, ord_le hn, Lib.hid h1, h2⟩)
/-- A meter for overstatements for which the null hypothesis is true. -/
theorem new_n {l : List Int} {mg u : Int} {n : Nat} (hn : l.length = n) (h : NullL l mg u) (w : World) :
    Calls Try.prog 11 #[.agg #[.int .i64 n, .int .i64 mg, .int .i64 u]] w fun e w' => ∃ H, e = .returned (.tuple #[.pointer (some ⟨H, 0, none⟩), .int .i64 0]) ∧ MeterAt w' H (Mt.new n mg u) ∧ w.heap.size ≤ H ∧ Below w.heap.size w w' := by
  have h1 := h.n1
  have h2 := h.n2
  have h3 := h.sum_le
  rw [hn] at h3
  exact new_c (by omega) (by omega) h.u1 h.u2 h.m1 h3 w
/-- A number over 2^44 or below 0 is none. -/
theorem val_tests {s : Mt} (h : s.Ok) {x : Int} (hx : s.val = x) : (0 ≤ x ∧ x ≤ 17592186044416) ∧ ¬ x < 0 ∧ decide (x < 0) = false ∧ ¬ (17592186044416 : Int) < x ∧ decide ((17592186044416 : Int) < x) = false := by
  have h1 := h.v1
  have h2 := h.v2
  exact ⟨by omega, by omega, decide_eq_false (by omega), by omega, decide_eq_false (by omega)⟩

theorem mod_upto (x : Int) (n : Nat) (hn : n ≤ 6) : ∃ k : Nat, k ≤ n ∧ ∀ w, Calls Try.prog 16 #[.int .i64 x, .int .i64 ((n : Int) + 1)] w fun e w' => e = .returned (.int .i64 k) ∧ w = w' := by
  have r1 := Int.emod_nonneg x (show (n : Int) + 1 ≠ 0 by omega)
  have r2 := Int.emod_lt_of_pos x (show 0 < (n : Int) + 1 by omega)
  obtain ⟨k, hk⟩ : ∃ k : Nat, x % ((n : Int) + 1) = k := ⟨(x % ((n : Int) + 1)).toNat, by omega⟩
  refine ⟨k, by omega, fun w => ?_⟩
  rw [← hk]
  exact mod_c x _ (by omega) (by omega) w

set_option maxRecDepth 100000 in
set_option maxHeartbeats 8000000 in
theorem walk_MartingaleMean {w : World} (v : Value) (l0 : List Int) (hv : IntsAt w v l0) (upper margin steps : Int) :
    Calls Try.prog 4 #[v, .int .i64 upper, .int .i64 margin, .int .i64 steps] w fun e w' => e = .returned (.bool true) ∧ Below w.heap.size w w' := by
  have NL := Lib.hid (null_d hv upper margin)
  have OR := Lib.hid (fun n h w => orders_d n h w)
  have AW := Lib.hid awake_c
  have CX := Lib.hid (fun n h => mod_upto steps n h)
  clear hv
  go_enter Try.func4, Try.ntmps4
  go_wp2_with (first
    | (go_at_call 8; ((with_reducible refine (NL.out).mono ?_); rintro e w1 ⟨p1, c1, n, l, mg, u, rfl, hn, hnl, hl1, hn1, hn6, hb1⟩; have hA1 : Below w.heap.size w (w1.alloc (.cells #[.int .i64 n, .int .i64 mg, .int .i64 u] 24)) := hb1.alloc hb1.size _; have TT1 := Lib.hid (Blk.new w1 #[.int .i64 n, .int .i64 mg, .int .i64 u] 24); have hl1a := Lib.hid (hl1.out.keep ((Below.refl w1.heap.size w1).alloc (Nat.le_refl _) (.cells #[.int .i64 n, .int .i64 mg, .int .i64 u] 24)))))
    | (go_at_call 10; ((with_reducible refine (OR.out _ hn6 _).mono ?_); rintro e w2 ⟨p2, c2, m, rfl, hm, hm720, hO, hb2⟩; have hB2 := bel2' hA1 hb2; have TT2 := Lib.hid (TT1.out.keep hb2); have hl2 := Lib.hid (hl1a.out.keep hb2); obtain ⟨ks, hksn, CS0⟩ := CX.out n hn6; have CS := Lib.hid CS0; clear CS0))
    | (go_at_call 16; ((with_reducible refine (CS.out _).mono ?_); rintro e w3 ⟨rfl, rfl⟩)))
  have NW := Lib.hid (fun w => new_n hn.out hnl.out w)
  have hks720 : (m : Int) ≤ 720 := by omega
  go_loopw [13, 14, 15, 16, 17] (fun sv iv _ _ _ wr => ∃ i : Nat, ∃ sum : Int, i ≤ m ∧ sv = .int .i64 sum ∧ iv = .int .i64 i ∧ 0 ≤ sum ∧ sum ≤ 17592186044416 * (i : Int) ∧ Hid (sum = sumI (fun q => (runS l (Mt.new n mg u) (q.take ks)).val) ((ordS n).take i)) ∧ Below w2.heap.size w2 wr) (fun _ iv _ _ _ _ => m - (intOf iv).toNat)
  case atStart => exact ⟨0, 0, by omega, rfl, rfl, by omega, by omega, Lib.hid rfl, Below.refl _ _⟩
  case round =>
    obtain ⟨i, sum, hi, rfl, rfl, hs1, hs2, hS, hbel⟩ := hrel
    have hbw := bel2' hB2 hbel
    by_cases him : i < m
    · have zi : (i : Int) < (m : Int) := by omega
      obtain ⟨q, hq⟩ : ∃ q, (ordS n).getD i [] = q := ⟨_, rfl⟩
      obtain ⟨b3, o3, uu, hp3, hc31, hc32, hcell, hrow, _⟩ := hO.out.cellAt (k := i) (by rw [hm.out]; exact him) hq
      subst hp3
      rw [hm.out] at hc31
      have hqm : q ∈ ordS n := ord_get (by rw [hm.out]; exact him) hq
      have hql := ord_len hqm
      have HS2 := Lib.hid (sumI_take (f := fun q => (runS l (Mt.new n mg u) (q.take ks)).val) (by rw [hm.out]; exact him) hq)
      obtain ⟨pq, cq, eu⟩ := hrow.shape
      subst eu
      rw [hql] at hrow hcell
      have HQ := Lib.hid hqm
      have HQL := Lib.hid hql
      have HROW := Lib.hid hrow
      have HCE := Lib.hid hcell
      have TTr := Lib.hid (TT2.out.keep hbel)
      obtain ⟨t0, t1, t2⟩ := TTr.out.three
      clear hq hqm hql hrow hcell
      obtain ⟨wo, rfl⟩ : ∃ x, x = wr := ⟨_, rfl⟩
      go_wp2_with (go_at_call 11; ((with_reducible refine (NW.out _).mono ?_); rintro e w5 ⟨H, rfl, hm5, hH5, hb5⟩; have HM5 := Lib.hid hm5; clear hm5))
      go_loopw [17] (fun kv wr => ∃ k : Nat, k ≤ ks ∧ kv = .int .i64 k ∧ Hid (MeterAt wr H (runS l (Mt.new n mg u) (q.take k))) ∧ Below wo.heap.size wo wr) (fun kv _ => ks - (intOf kv).toNat)
      case atStart => exact ⟨0, by omega, rfl, Lib.hid (by rw [List.take_zero]; exact HM5.out), hb5⟩
      case round =>
        obtain ⟨k, hk, rfl, hMr, hbo⟩ := hrel
        have hbr := bel2' hbel hbo
        by_cases hkk : k < ks
        · have zk : (k : Int) < (ks : Int) := by omega
          have zkn : (k : Int) < (n : Int) := by omega
          have hcellr := cell_keep hbr HCE.out
          obtain ⟨x, hx⟩ : ∃ x, q.getD k 0 = x := ⟨_, rfl⟩
          obtain ⟨bq, oq, epq, hcq1, hcq2, hcq⟩ := (HROW.out.keep hbr).cellAt k (by rw [HQL.out]; omega)
          subst epq
          rw [HQL.out] at hcq1
          rw [hx] at hcq
          have hst := ord_step hnl.out (q := q) (k := k) (x := x) (by rw [hn.out]; exact HQ.out) (by rw [hn.out]; omega) hx
          rw [hn.out] at hst
          obtain ⟨xn, hxn⟩ : ∃ j : Nat, x = j := ⟨x.toNat, by omega⟩
          subst hxn
          have zx : (xn : Int) < (n : Int) := hst.2.1
          obtain ⟨bl, ol, epl, hcl1, hcl2, hcl⟩ := (hl2.out.keep hbr).cellAt xn (by rw [hn.out]; omega)
          subst epl
          rw [hn.out] at hcl1
          obtain ⟨o, ho⟩ : ∃ o, l.getD xn 0 = o := ⟨_, rfl⟩
          rw [ho] at hcl
          obtain ⟨g1, g2, g3, g4, g5⟩ := ord_go (o := o) hn.out hnl.out HQ.out (k := k) (by omega) hx (by rw [Int.toNat_natCast]; exact ho)
          have ST := Lib.hid (step_c (o := o) hMr.out g1 g2 g3 g4)
          have HG5 := Lib.hid g5
          clear hx hst ho g1 g2 g3 g4 g5
          go_wp2_with (go_at_call 12; ((with_reducible refine (ST.out).mono ?_); rintro e w6 ⟨rfl, hm6, ho6⟩; have HM6 := Lib.hid hm6; have hB6 := hbo.trans (ho6.below.mono hH5); clear hm6))
          go_roundw
          case rel => exact ⟨k + 1, by omega, by go_num, Lib.hid (by rw [HG5.out]; exact HM6.out), hB6⟩
          case measure => simp [intOf] <;> omega
        · have zk : ¬ (k : Int) < (ks : Int) := by omega
          obtain rfl : k = ks := by omega
          have hok := (run_ok hnl.out (q := q) (by rw [hn.out]; exact HQ.out) k (by rw [hn.out]; omega)).1
          rw [hn.out] at hok
          obtain ⟨x, hx⟩ : ∃ x, (runS l (Mt.new n mg u) (q.take k)).val = x := ⟨_, rfl⟩
          obtain ⟨⟨v1, v2⟩, v3, v4, v5, v6⟩ := val_tests hok hx
          have VA : Hid (Calls Try.prog 17 #[.pointer (some ⟨H, 0, none⟩)] wr fun e w' => e = .returned (.int .i64 x) ∧ wr = w') := Lib.hid (by rw [← hx]; exact value_c hMr.out)
          obtain ⟨s2, hs2'⟩ : ∃ y, sum + x = y := ⟨_, rfl⟩
          have w2' : IntKind.i64.wrap s2 = s2 := w64 (by omega) (by omega)
          have HS3 : Hid (s2 = sumI (fun q => (runS l (Mt.new n mg u) (q.take k)).val) ((ordS n).take (i + 1))) := Lib.hid (by rw [HS2.out, ← hS.out, hx]; exact hs2'.symm)
          clear hx hok
          go_wp2_with (go_at_call 17; ((with_reducible refine (VA.out).mono ?_); rintro e w7 ⟨rfl, rfl⟩))
          go_roundw
          case rel => exact ⟨i + 1, s2, by omega, rfl, by go_num, by omega, by omega, HS3, bel2' hbel hbo⟩
          case measure => simp [intOf] <;> omega
    · have zi : ¬ (i : Int) < (m : Int) := by omega
      obtain rfl : i = m := by omega
      obtain ⟨M, hM⟩ : ∃ x, (i : Int) * 4294967296 = x := ⟨_, rfl⟩
      have hfin : sum ≤ M := by
        have h1 := hnl.out.mean ks
        rw [hn.out] at h1
        rw [hS.out, List.take_of_length_le (by rw [hm.out]; exact Nat.le_refl _), ← hM, ← hm.out]
        exact h1
      have wM : IntKind.i64.wrap M = M := w64 (by omega) (by omega)
      have hdec : decide (sum ≤ M) = true := decide_eq_true hfin
      go_wp2_with (go_at_call 15; ((with_reducible refine (AW.out _).mono ?_); rintro e w8 ⟨rfl, hb8⟩; have hB8 := bel2' hbw hb8))
      go_ret
      exact ⟨rfl, hB8⟩

end Go.Proofs.Ytlhkjkhbgebgiaa
