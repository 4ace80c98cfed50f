/- The walk of MartingaleRisk. -/
import Derived.Test.YtlhkjkhbgebgiaaV13
import Derived.Deep.RegionHeld3
namespace Go.Proofs.Nums

theorem limbs_one {n : Nat} (h0 : 0 < n) (h1 : n < 4294967296) : limbs n = [n] := by
  unfold limbs
  obtain ⟨f, rfl⟩ : ∃ f, n = f + 1 := ⟨n - 1, by omega⟩
  unfold limbsF
  rw [if_neg (by omega), Nat.mod_eq_of_lt h1, Nat.div_eq_of_lt h1]
  cases f with
  | zero => rfl
  | succ f => unfold limbsF; rw [if_pos rfl]
theorem frac_small (k d : Nat) (hk : 0 < k) (hkd : k ≤ d) (hd : d ≤ 30) : (Q.mk' false k d).d ≤ 30 ∧ 0 < (Q.mk' false k d).d := by
  rw [Q.mk'_pos hk (by omega)]
  have hg := Nat.gcd_pos_of_pos_left d hk
  exact ⟨Nat.le_trans (Nat.div_le_self _ _) hd, Nat.div_pos (Nat.le_of_dvd (by omega) (Nat.gcd_dvd_right k d)) hg⟩

end Go.Proofs.Nums
namespace Go.Proofs.Ytlhkjkhbgebgiaa
open Go.RowKit Go.Proofs.Kit Go.Proofs.Nums

theorem nrm_one {w : World} {v : Value} {n L : Nat} (h : Nrm w v n L) (h0 : 0 < n) (h1 : n < 4294967296) : ∃ b o c, v = .slice (some ⟨b, o, none⟩) 1 c ∧ 1 ≤ c ∧ c ≤ 9223372036854775807 ∧ w.cell? ⟨b, o, none⟩ = some (.int .u32 n) := by
  have ha := h.1
  rw [limbs_one h0 h1] at ha
  obtain ⟨p, cap, e, _⟩ := ha.1
  rw [List.length_map] at e
  subst e
  obtain ⟨b, off, rfl, h2, h3, h4⟩ := ha.cellAt 0 (by simp)
  exact ⟨b, off, cap, rfl, h2, h3, h4⟩
set_option maxRecDepth 100000 in
set_option maxHeartbeats 4000000 in
theorem lrisk_all (a b : Int) : ∃ k d : Nat, 0 < k ∧ k ≤ d ∧ d ≤ 30 ∧ ∀ w,
    Calls Try.prog 9 #[.int .i64 a, .int .i64 b] w (GivesN (Q.mk' false k d) 2 w) := by
  have MD := Lib.hid (fun x k (h1 : (1 : Int) ≤ k) (h2 : k ≤ 1000000) w => mod_c x k h1 h2 w)
  obtain ⟨B, hB0, hB1, hB⟩ : ∃ B, 0 ≤ B ∧ B ≤ 29 ∧ B = b % 30 := ⟨_, by omega, by omega, rfl⟩
  have CB : Hid (∀ w, Calls Try.prog 16 #[.int .i64 b, .int .i64 30] w fun e w' => e = .returned (.int .i64 B) ∧ w = w') := Lib.hid (fun w => by rw [hB]; exact MD.out b 30 (by omega) (by omega) w)
  obtain ⟨dz, hdz⟩ : ∃ x, 1 + B = x := ⟨_, rfl⟩
  have d1 : 1 ≤ dz := by omega
  have d2 : dz ≤ 30 := by omega
  have r1 := Int.emod_nonneg a (show dz ≠ 0 by omega)
  have r2 := Int.emod_lt_of_pos a (show 0 < dz by omega)
  obtain ⟨A, hA⟩ : ∃ A, a % dz = A := ⟨_, rfl⟩
  rw [hA] at r1 r2
  have CA : Hid (∀ w, Calls Try.prog 16 #[.int .i64 a, .int .i64 dz] w fun e w' => e = .returned (.int .i64 A) ∧ w = w') := Lib.hid (fun w => by rw [← hA]; exact MD.out a dz (by omega) (by omega) w)
  obtain ⟨kz, hkz⟩ : ∃ x, 1 + A = x := ⟨_, rfl⟩
  obtain ⟨k, hk⟩ : ∃ k : Nat, kz = k := ⟨kz.toNat, by omega⟩
  obtain ⟨d, hd⟩ : ∃ d : Nat, dz = d := ⟨dz.toNat, by omega⟩
  have FR : Hid (∀ w, Calls Try.prog 20 #[.int .i64 kz, .int .i64 dz] w (GivesN (Q.mk' false k d) 2 w)) := Lib.hid (fun w => by rw [hk, hd]; exact fraction_c k d (by omega) (by omega) (by omega) (by omega) w)
  refine ⟨k, d, by omega, by omega, by omega, fun w => ?_⟩
  have BB := Lib.hid (Blk.new w #[.bool false, .slice none 0 0, .slice none 0 0] 30)
  have hBd : Below w.heap.size w (w.alloc (.cells #[.bool false, .slice none 0 0, .slice none 0 0] 30)) := (Below.refl _ _).alloc (Nat.le_refl _) _
  obtain ⟨q, hq⟩ : ∃ q, Q.mk' false k d = q := ⟨_, rfl⟩
  rw [hq] at FR ⊢
  clear MD hB hA hq hk hd
  go_enter Try.func9, Try.ntmps9
  go_wp2_with (first
    | (go_at_call 16; ((with_reducible refine (CB.out _).mono ?_); rintro e w1 ⟨rfl, rfl⟩))
    | (go_at_call 16; ((with_reducible refine (CA.out _).mono ?_); rintro e w1 ⟨rfl, rfl⟩))
    | (go_at_call 20; ((with_reducible refine (FR.out _).mono ?_); rintro e w7 ⟨p7, l7, k7, p8, l8, k8, rfl, hq7, hb7⟩; have hB7 := bel2' hBd hb7; have B7 := Lib.hid (BB.out.keep hb7); obtain ⟨c0, c1, c2⟩ := B7.out.three; obtain ⟨f0, f1, f2⟩ := B7.out.free3)))
  refine bodyPost_ret (v := .agg #[.bool q.neg, .slice p7 l7 k7, .slice p8 l8 k8]) (by simp [results, Try.results9, go_sem, c0, c1, c2]) rfl ?_
  obtain ⟨vn, vd, ev, hn, hd⟩ := hq7
  simp only [Value.agg.injEq, Array.mk.injEq, List.cons.injEq, true_and, and_true] at ev
  obtain ⟨rfl, rfl⟩ := ev
  have := retN hB7 (Nat.le_refl _) B7.out (by intro t h; cases h) (by intro t h; cases h) (by intro t h; cases h) hn hd
  exact ⟨_, _, _, _, _, _, rfl, this.1, this.2⟩

/-- A risk limit, and the limbs of its two numbers. -/
theorem lrisk_d (a b : Int) : ∃ q : Q, q.Nf ∧ q.neg = false ∧ 0 < q.n ∧ q.n ≤ q.d ∧ q.d ≤ 30 ∧ ∀ w, Calls Try.prog 9 #[.int .i64 a, .int .i64 b] w fun e w' => ∃ b1 o1 c1 b2 o2 c2, e = .returned (.agg #[.bool false, .slice (some ⟨b1, o1, none⟩) 1 c1, .slice (some ⟨b2, o2, none⟩) 1 c2]) ∧ Hid (RatN w' (.agg #[.bool false, .slice (some ⟨b1, o1, none⟩) 1 c1, .slice (some ⟨b2, o2, none⟩) 1 c2]) q 2) ∧
    Hid (w'.cell? ⟨b1, o1, none⟩ = some (.int .u32 q.n) ∧ w'.cell? ⟨b2, o2, none⟩ = some (.int .u32 q.d)) ∧ 1 ≤ c1 ∧ c1 ≤ 9223372036854775807 ∧ 1 ≤ c2 ∧ c2 ≤ 9223372036854775807 ∧ Below w.heap.size w w' := by
  obtain ⟨k, d, h1, h2, h3, h4⟩ := lrisk_all a b
  obtain ⟨f1, f2, f3, f4⟩ := frac_facts k d h1 (by omega) h2
  obtain ⟨f5, f6⟩ := frac_small k d h1 h2 h3
  refine ⟨Q.mk' false k d, f1, f2, f3, f4, f5, fun w => (h4 w).mono ?_⟩
  rintro e w' ⟨p, l, c, p', l', c', rfl, hr, hb⟩
  have hr0 := hr
  obtain ⟨vn, vd, ev, hn, hd⟩ := hr
  simp only [Value.agg.injEq, Array.mk.injEq, List.cons.injEq, true_and, and_true] at ev
  obtain ⟨rfl, rfl⟩ := ev
  obtain ⟨b1, o1, c1, e1, g1, g2, g3⟩ := nrm_one hn f3 (by omega)
  obtain ⟨b2, o2, c2, e2, g4, g5, g6⟩ := nrm_one hd f6 (by omega)
  rw [f2, e1, e2] at hr0
  refine ⟨b1, o1, c1, b2, o2, c2, by rw [f2, e1, e2], Lib.hid hr0, Lib.hid ⟨g3, g6⟩, g1, g2, g4, g5, hb⟩

/-- The cells that the end of the law reads. -/
def RiskCells (R b1 o1 c1 b2 o2 c2 N D : Nat) (w : World) : Prop := w.cell? ⟨R, 1, none⟩ = some (.slice (some ⟨b1, o1, none⟩) 1 c1) ∧ w.cell? ⟨R, 2, none⟩ = some (.slice (some ⟨b2, o2, none⟩) 1 c2) ∧ w.cell? ⟨b1, o1, none⟩ = some (.int .u32 N) ∧ w.cell? ⟨b2, o2, none⟩ = some (.int .u32 D)
theorem RiskCells.keep {R b1 o1 c1 b2 o2 c2 N D : Nat} {w w' : World} (h : RiskCells R b1 o1 c1 b2 o2 c2 N D w) (hb : Below w.heap.size w w') : RiskCells R b1 o1 c1 b2 o2 c2 N D w' :=
  ⟨cell_keep hb h.1, cell_keep hb h.2.1, cell_keep hb h.2.2.1, cell_keep hb h.2.2.2⟩

set_option maxRecDepth 100000 in
set_option maxHeartbeats 8000000 in
theorem walk_MartingaleRisk {w : World} (v : Value) (l0 : List Int) (hv : IntsAt w v l0) (upper margin a b : Int) :
    Calls Try.prog 3 #[v, .int .i64 upper, .int .i64 margin, .int .i64 a, .int .i64 b] w fun e w' => e = .returned (.bool true) ∧ Below w.heap.size w w' := by
  have NL := Lib.hid (null_d hv upper margin)
  have OR := Lib.hid (fun n h w => orders_d n h w)
  have AW := Lib.hid awake_c
  obtain ⟨q, qf1, qf2, qf3, qf4, qf5, hRI⟩ := lrisk_d a b
  have RI := Lib.hid hRI
  have QF := Lib.hid (And.intro qf1 qf2)
  obtain ⟨N, hN⟩ : ∃ N, q.n = N := ⟨_, rfl⟩
  obtain ⟨D, hD⟩ : ∃ D, q.d = D := ⟨_, rfl⟩
  have HN := Lib.hid hN
  have HD := Lib.hid hD
  rw [hN, hD] at RI
  rw [hN] at qf3 qf4
  rw [hD] at qf4 qf5
  clear hv hRI qf1 qf2 hN hD
  go_enter Try.func3, Try.ntmps3
  go_wp2_with (first
    | (go_at_call 8; ((with_reducible refine (NL.out).mono ?_); rintro e w1 ⟨p1, c1, n, l, mg, u, rfl, hn, hnl, hl1, hn1, hn6, hb1⟩; have hA1 : Below w.heap.size w (w1.alloc (.cells #[.int .i64 n, .int .i64 mg, .int .i64 u] 24)) := hb1.alloc hb1.size _; have TT1 := Lib.hid (Blk.new w1 #[.int .i64 n, .int .i64 mg, .int .i64 u] 24); have hl1a := Lib.hid (hl1.out.keep ((Below.refl w1.heap.size w1).alloc (Nat.le_refl _) (.cells #[.int .i64 n, .int .i64 mg, .int .i64 u] 24)))))
    | (go_at_call 9; ((with_reducible refine (RI.out _).mono ?_); rintro e w4 ⟨rb1, ro1, rc1, rb2, ro2, rc2, rfl, hrn, hrc, rg1, rg2, rg3, rg4, hb4⟩; have hB4 := bel2' hA1 hb4; have hA4 : Below w.heap.size w (w4.alloc (.cells #[.bool false, .slice (some ⟨rb1, ro1, none⟩) 1 rc1, .slice (some ⟨rb2, ro2, none⟩) 1 rc2] 30)) := hB4.alloc hB4.size _; have hK4 := (Below.refl w4.heap.size w4).alloc (Nat.le_refl _) (.cells #[.bool false, .slice (some ⟨rb1, ro1, none⟩) 1 rc1, .slice (some ⟨rb2, ro2, none⟩) 1 rc2] 30); have RR4 := Lib.hid (Blk.new w4 #[.bool false, .slice (some ⟨rb1, ro1, none⟩) 1 rc1, .slice (some ⟨rb2, ro2, none⟩) 1 rc2] 30); have TT4 := Lib.hid ((TT1.out.keep hb4).keep hK4); have hl4 := Lib.hid ((hl1a.out.keep hb4).keep hK4); have hrn4 := Lib.hid (hrn.out.keep hK4); have hrc4 := Lib.hid (And.intro (cell_keep hK4 hrc.out.1) (cell_keep hK4 hrc.out.2)); clear hK4))
    | (go_at_call 10; ((with_reducible refine (OR.out _ hn6 _).mono ?_); rintro e w2 ⟨p2, c2, m, rfl, hm, hm720, hO, hb2⟩; have hB2 := bel2' hA4 hb2; have TT2 := Lib.hid (TT4.out.keep hb2); have hl2 := Lib.hid (hl4.out.keep hb2); have RR2 := Lib.hid (RR4.out.keep hb2); have hrn2 := Lib.hid (hrn4.out.keep hb2); have RC2 : Hid (RiskCells w4.heap.size rb1 ro1 rc1 rb2 ro2 rc2 N D w2) := Lib.hid ⟨RR2.out.three.2.1, RR2.out.three.2.2, cell_keep hb2 hrc4.out.1, cell_keep hb2 hrc4.out.2⟩)))
  have NW := Lib.hid (fun w => new_n hn.out hnl.out w)
  have hm720' : (m : Int) ≤ 720 := by omega
  go_loopw [15, 16, 17, 18, 19] (fun sv iv _ _ _ wr => ∃ i : Nat, ∃ hits : Int, i ≤ m ∧ sv = .int .i64 hits ∧ iv = .int .i64 i ∧ 0 ≤ hits ∧ hits ≤ (i : Int) ∧ Hid (hits = sumI (hitS l (Mt.new n mg u) N D) ((ordS n).take i)) ∧ Below w2.heap.size w2 wr) (fun _ iv _ _ _ _ => m - (intOf iv).toNat)
  case atStart => exact ⟨0, 0, by omega, rfl, rfl, by omega, by omega, Lib.hid rfl, Below.refl _ _⟩
  case round =>
    obtain ⟨i, hits, hi, rfl, rfl, hs1, hs2, hS, hbel⟩ := hrel
    have hbw := bel2' hB2 hbel
    by_cases him : i < m
    · have zi : (i : Int) < (m : Int) := by omega
      obtain ⟨q0, hq⟩ : ∃ q, (ordS n).getD i [] = q := ⟨_, rfl⟩
      obtain ⟨b3, o3, uu, hp3, hc31, hc32, hcell, hrow, _⟩ := hO.out.cellAt (k := i) (by rw [hm.out]; exact him) hq
      subst hp3
      rw [hm.out] at hc31
      have hqm : q0 ∈ ordS n := ord_get (by rw [hm.out]; exact him) hq
      have hql := ord_len hqm
      have HS2 := Lib.hid (sumI_take (f := hitS l (Mt.new n mg u) N D) (by rw [hm.out]; exact him) hq)
      obtain ⟨pq, cq, eu⟩ := hrow.shape
      subst eu
      rw [hql] at hrow hcell
      have HQ := Lib.hid hqm
      have HQL := Lib.hid hql
      have HROW := Lib.hid hrow
      have HCE := Lib.hid hcell
      have TTr := Lib.hid (TT2.out.keep hbel)
      obtain ⟨t0, t1, t2⟩ := TTr.out.three
      clear hq hqm hql hrow hcell
      obtain ⟨wo, rfl⟩ : ∃ x, x = wr := ⟨_, rfl⟩
      go_wp2_with (go_at_call 11; ((with_reducible refine (NW.out _).mono ?_); rintro e w5 ⟨H, rfl, hm5, hH5, hb5⟩; have HM5 := Lib.hid hm5; clear hm5))
      go_loopw [19] (fun kv wr => ∃ k : Nat, k ≤ n ∧ kv = .int .i64 k ∧ Hid (MeterAt wr H (runS l (Mt.new n mg u) (q0.take k))) ∧ Below wo.heap.size wo wr) (fun kv _ => n - (intOf kv).toNat)
      case atStart => exact ⟨0, by omega, rfl, Lib.hid (by rw [List.take_zero]; exact HM5.out), hb5⟩
      case round =>
        obtain ⟨k, hk, rfl, hMr, hbo⟩ := hrel
        have hbr := bel2' hbel hbo
        by_cases hkk : k < n
        · have zk : (k : Int) < (n : Int) := by omega
          have hcellr := cell_keep hbr HCE.out
          obtain ⟨x, hx⟩ : ∃ x, q0.getD k 0 = x := ⟨_, rfl⟩
          obtain ⟨bq, oq, epq, hcq1, hcq2, hcq⟩ := (HROW.out.keep hbr).cellAt k (by rw [HQL.out]; omega)
          subst epq
          rw [HQL.out] at hcq1
          rw [hx] at hcq
          have hst := ord_step hnl.out (q := q0) (k := k) (x := x) (by rw [hn.out]; exact HQ.out) (by rw [hn.out]; omega) hx
          rw [hn.out] at hst
          obtain ⟨xn, hxn⟩ : ∃ j : Nat, x = j := ⟨x.toNat, by omega⟩
          subst hxn
          have zx : (xn : Int) < (n : Int) := hst.2.1
          obtain ⟨bl, ol, epl, hcl1, hcl2, hcl⟩ := (hl2.out.keep hbr).cellAt xn (by rw [hn.out]; omega)
          subst epl
          rw [hn.out] at hcl1
          obtain ⟨o, ho⟩ : ∃ o, l.getD xn 0 = o := ⟨_, rfl⟩
          rw [ho] at hcl
          obtain ⟨g1, g2, g3, g4, g5⟩ := ord_go (o := o) hn.out hnl.out HQ.out (k := k) (by omega) hx (by rw [Int.toNat_natCast]; exact ho)
          have ST := Lib.hid (step_c (o := o) hMr.out g1 g2 g3 g4)
          have hpr := hnl.out.unproven (q := q0) (by rw [hn.out]; exact HQ.out) (k := k + 1) (by rw [hn.out]; omega)
          rw [hn.out, g5] at hpr
          have HG5 := Lib.hid g5
          obtain ⟨st, hst2⟩ : ∃ s, (runS l (Mt.new n mg u) (q0.take k)).next o = s := ⟨_, rfl⟩
          rw [hst2] at ST hpr HG5
          have PV : Hid (∀ w', MeterAt w' H st → Calls Try.prog 13 #[.pointer (some ⟨H, 0, none⟩)] w' fun e w'' => e = .returned (.bool false) ∧ w' = w'') := Lib.hid (fun w' h => by rw [← hpr]; exact proven_c h)
          clear hx hst ho g1 g2 g3 g4 g5 hpr hst2
          go_wp2_with (first
            | (go_at_call 12; ((with_reducible refine (ST.out).mono ?_); rintro e w6 ⟨rfl, hm6, ho6⟩; have HM6 := Lib.hid hm6; have hB6 := hbo.trans (ho6.below.mono hH5); clear hm6))
            | (go_at_call 13; ((with_reducible refine (PV.out _ HM6.out).mono ?_); rintro e w7 ⟨rfl, rfl⟩)))
          go_roundw
          case rel => exact ⟨k + 1, by omega, by go_num, Lib.hid (by rw [HG5.out]; exact HM6.out), hB6⟩
          case measure => simp [intOf] <;> omega
        · have zk : ¬ (k : Int) < (n : Int) := by omega
          obtain rfl : k = n := by omega
          have hok := (run_ok hnl.out (q := q0) (by rw [hn.out]; exact HQ.out) k (by rw [hn.out]; omega)).1
          have hpr := hnl.out.unproven (q := q0) (by rw [hn.out]; exact HQ.out) (k := k) (by rw [hn.out]; omega)
          rw [hn.out] at hok hpr
          have hfull : q0.take k = q0 := List.take_of_length_le (by rw [HQL.out]; omega)
          rw [hfull] at hok hpr hMr
          obtain ⟨t, ht⟩ : ∃ t, Mt.conf (runS l (Mt.new k mg u) q0) q = t := ⟨_, rfl⟩
          have hhit : hitS l (Mt.new k mg u) N D q0 = if t then 1 else 0 := by
            rw [← ht]
            unfold Mt.conf hitS
            rw [hpr, Bool.false_or, HN.out, HD.out]
            by_cases g : 4294967296 * (D : Int) ≤ (runS l (Mt.new k mg u) q0).best * (N : Int)
            · rw [if_pos g, decide_eq_true g]; rfl
            · rw [if_neg g, decide_eq_false g]; rfl
          have CF : Hid (Calls Try.prog 14 #[.pointer (some ⟨H, 0, none⟩), .agg #[.bool false, .slice (some ⟨rb1, ro1, none⟩) 1 rc1, .slice (some ⟨rb2, ro2, none⟩) 1 rc2]] wr fun e w' => e = .returned (.bool t) ∧ Below wr.heap.size wr w') := Lib.hid (by rw [← ht]; exact conf_c hMr.out hok (hrn2.out.keep hbr) QF.out.1 QF.out.2 (by rw [HN.out]; exact qf3) (by rw [HN.out, HD.out]; exact qf4))
          obtain ⟨d0, d1, d2⟩ := (RR2.out.keep hbr).three
          have HH := Lib.hid hhit
          clear ht hhit hok hpr hfull
          cases t
          · have HS3 : Hid (hits = sumI (hitS l (Mt.new k mg u) N D) ((ordS k).take (i + 1))) := Lib.hid (by rw [HS2.out, HH.out, ← hS.out]; simp)
            go_wp2_with (go_at_call 14; ((with_reducible refine (CF.out).mono ?_); rintro e w7 ⟨rfl, hb7⟩))
            go_roundw
            case rel => exact ⟨i + 1, hits, by omega, rfl, by go_num, by omega, by omega, HS3, bel2' hbr hb7⟩
            case measure => simp [intOf] <;> omega
          · obtain ⟨s2, hs2'⟩ : ∃ y, hits + 1 = y := ⟨_, rfl⟩
            have HS3 : Hid (s2 = sumI (hitS l (Mt.new k mg u) N D) ((ordS k).take (i + 1))) := Lib.hid (by rw [HS2.out, HH.out, ← hS.out]; exact hs2'.symm)
            go_wp2_with (go_at_call 14; ((with_reducible refine (CF.out).mono ?_); rintro e w7 ⟨rfl, hb7⟩))
            go_roundw
            case rel => exact ⟨i + 1, s2, by omega, rfl, by go_num, by omega, by omega, HS3, bel2' hbr hb7⟩
            case measure => simp [intOf] <;> omega
    · have zi : ¬ (i : Int) < (m : Int) := by omega
      obtain rfl : i = m := by omega
      have hfin : hits * (D : Int) ≤ (i : Int) * (N : Int) := by
        have h1 := hnl.out.risk (num := N) (den := D) (by omega) (by omega)
        rw [hn.out, hm.out] at h1
        rw [hS.out, List.take_of_length_le (by rw [hm.out]; exact Nat.le_refl _)]
        exact h1
      have hX1 : 0 ≤ hits * (D : Int) := Int.mul_nonneg hs1 (by omega)
      have hX2 : hits * (D : Int) ≤ 720 * 30 := Int.mul_le_mul (by omega) (by omega) (by omega) (by omega)
      have hY1 : 0 ≤ (i : Int) * (N : Int) := Int.mul_nonneg (by omega) (by omega)
      have hY2 : (i : Int) * (N : Int) ≤ 720 * 30 := Int.mul_le_mul (by omega) (by omega) (by omega) (by omega)
      obtain ⟨X, hX⟩ : ∃ x, hits * (D : Int) = x := ⟨_, rfl⟩
      obtain ⟨Y, hY⟩ : ∃ x, (i : Int) * (N : Int) = x := ⟨_, rfl⟩
      rw [hX] at hfin hX1 hX2
      rw [hY] at hfin hY1 hY2
      have wX : IntKind.i64.wrap X = X := w64 (by omega) (by omega)
      have wY : IntKind.i64.wrap Y = Y := w64 (by omega) (by omega)
      have wN : IntKind.i64.wrap (N : Int) = (N : Int) := w64 (by omega) (by omega)
      have wD : IntKind.i64.wrap (D : Int) = (D : Int) := w64 (by omega) (by omega)
      have LT := Lib.hid (RC2.out.keep (hbel.drew))
      have hBd := hbw.drew
      go_wp2_with fail
      go_region_held3 (fun w' => w'.cell? ⟨w4.heap.size, 1, none⟩ = some (.slice (some ⟨rb1, ro1, none⟩) 1 rc1) ∧ w'.cell? ⟨w4.heap.size, 2, none⟩ = some (.slice (some ⟨rb2, ro2, none⟩) 1 rc2) ∧ w'.cell? ⟨rb1, ro1, none⟩ = some (.int .u32 N) ∧ w'.cell? ⟨rb2, ro2, none⟩ = some (.int .u32 D))
        (first | exact LT.out | exact L8.out)
        (first | (go_at_call 15; ((with_reducible refine (AW.out _).mono ?_); rintro e w8 ⟨rfl, hb8⟩; have L8 := Lib.hid (LT.out.keep hb8); have hB8 := bel2' hBd hb8)))
      all_goals
        go_wp2_with fail
        go_ret
        exact ⟨rfl, hB8⟩

end Go.Proofs.Ytlhkjkhbgebgiaa
