/- Walk of MartingaleLimit. -/
import Derived.Test.YtlhkjkhbgebgiaaV5
namespace Go.Proofs.Ytlhkjkhbgebgiaa
open Go.RowKit Go.Proofs.Kit Go.Proofs.Nums

/-- The state of the loop. -/
structure Lim (w0 : World) (H T A B : Nat) (st : Mt) (n1 m1 u1 : Int) (cs ds : Array Value) (va vb : Value) (q1 q2 : Q) (v : Value) (l : List Int) (w : World) : Prop where
  m : MeterAt w H st
  ok : st.Ok
  n : st.n = n1
  u : st.u = u1
  t : Blk T #[.int .i64 n1, .int .i64 m1, .int .i64 u1] w
  a : Blk A cs w
  b : Blk B ds w
  ra : RatN w va q1 2
  rb : RatN w vb q2 2
  over : IntsAt w v l
  below : Below w0.heap.size w0 w
  dis : w0.heap.size ≤ H ∧ H ≠ T ∧ H ≠ A ∧ H ≠ B
theorem Lim.keep {w0 : World} {H T A B : Nat} {st : Mt} {n1 m1 u1 : Int} {cs ds : Array Value} {va vb : Value} {q1 q2 : Q} {v : Value} {l : List Int} {w w' : World} (h : Lim w0 H T A B st n1 m1 u1 cs ds va vb q1 q2 v l w) (hb : Below w.heap.size w w') : Lim w0 H T A B st n1 m1 u1 cs ds va vb q1 q2 v l w' :=
  ⟨h.m.keep hb, h.ok, h.n, h.u, h.t.keep hb, h.a.keep hb, h.b.keep hb, h.ra.keep hb, h.rb.keep hb, h.over.keep hb, bel2' h.below hb, h.dis⟩
theorem Lim.step {w0 : World} {H T A B : Nat} {st st' : Mt} {n1 m1 u1 : Int} {cs ds : Array Value} {va vb : Value} {q1 q2 : Q} {v : Value} {l : List Int} {w w' : World} (h : Lim w0 H T A B st n1 m1 u1 cs ds va vb q1 q2 v l w) (hv : IntsAt w0 v l) (ho : OnlyH H w w') (hm : MeterAt w' H st') (hok : st'.Ok) (hn : st'.n = st.n) (hu : st'.u = st.u) : Lim w0 H T A B st' n1 m1 u1 cs ds va vb q1 q2 v l w' := by
  obtain ⟨d1, d2, d3, d4⟩ := h.dis
  have hs := ho.below.size
  have hbel : Below w0.heap.size w0 w' := h.below.trans (ho.below.mono d1)
  exact ⟨hm, hok, hn.trans h.n, hu.trans h.u, h.t.off (ho.heap T (Ne.symm d2)) hs, h.a.off (ho.heap A (Ne.symm d3)) hs, h.b.off (ho.heap B (Ne.symm d4)) hs, h.ra.offH ho.heap h.m.noLimb, h.rb.offH ho.heap h.m.noLimb, hv.keep hbel, hbel, h.dis⟩

set_option maxRecDepth 100000 in
set_option maxHeartbeats 16000000 in
theorem walk_MartingaleLimit {w : World} (n upper margin : Int) (v : Value) (l : List Int) (hv : IntsAt w v l) (a b c : Int) :
    Calls Try.prog 6 #[.int .i64 n, .int .i64 upper, .int .i64 margin, v, .int .i64 a, .int .i64 b, .int .i64 c] w fun e w' => e = .returned (.bool true) ∧ Below w.heap.size w w' := by
  have HV := Lib.hid hv
  obtain ⟨p0, cap0, hshape⟩ := hv.shape
  have MD := Lib.hid (fun x k (h1 : (1 : Int) ≤ k) (h2 : k ≤ 1000000) w => mod_c x k h1 h2 w)
  obtain ⟨N, hN0, hN1, hN⟩ : ∃ N, 0 ≤ N ∧ N ≤ 39 ∧ N = n % 40 := ⟨_, by omega, by omega, rfl⟩
  obtain ⟨U, hU0, hU1, hU⟩ : ∃ U, 0 ≤ U ∧ U ≤ 4 ∧ U = upper % 5 := ⟨_, by omega, by omega, rfl⟩
  obtain ⟨D, hD0, hD1, hD⟩ : ∃ D, 0 ≤ D ∧ D ≤ 29 ∧ D = b % 30 := ⟨_, by omega, by omega, rfl⟩
  have C40 : Hid (∀ w, Calls Try.prog 16 #[.int .i64 n, .int .i64 40] w fun e w' => e = .returned (.int .i64 N) ∧ w = w') := Lib.hid (fun w => by rw [hN]; exact MD.out n 40 (by omega) (by omega) w)
  have C5 : Hid (∀ w, Calls Try.prog 16 #[.int .i64 upper, .int .i64 5] w fun e w' => e = .returned (.int .i64 U) ∧ w = w') := Lib.hid (fun w => by rw [hU]; exact MD.out upper 5 (by omega) (by omega) w)
  have C30 : Hid (∀ w, Calls Try.prog 16 #[.int .i64 b, .int .i64 30] w fun e w' => e = .returned (.int .i64 D) ∧ w = w') := Lib.hid (fun w => by rw [hD]; exact MD.out b 30 (by omega) (by omega) w)
  obtain ⟨n1, hn1⟩ : ∃ x, 1 + N = x := ⟨_, rfl⟩
  obtain ⟨u1, hu1⟩ : ∃ x, 2 + U = x := ⟨_, rfl⟩
  obtain ⟨d1, hd1⟩ : ∃ x, 1 + D = x := ⟨_, rfl⟩
  have a1 : 1 ≤ n1 := by omega
  have a2 : n1 ≤ 40 := by omega
  have a3 : 2 ≤ u1 := by omega
  have a4 : u1 ≤ 6 := by omega
  have a5 : 1 ≤ d1 := by omega
  have a6 : d1 ≤ 30 := by omega
  have hp1 : n1 * u1 ≤ 40 * 6 := Int.mul_le_mul a2 a4 (by omega) (by omega)
  have hp0 : 1 * 2 ≤ n1 * u1 := Int.mul_le_mul a1 a3 (by omega) (by omega)
  obtain ⟨p, hp⟩ : ∃ x, n1 * u1 = x := ⟨_, rfl⟩
  rw [hp] at hp0 hp1
  have hmm1 := Int.emod_nonneg margin (show p ≠ 0 by omega)
  have hmm2 := Int.emod_lt_of_pos margin (show 0 < p by omega)
  obtain ⟨M, hM⟩ : ∃ x, margin % p = x := ⟨_, rfl⟩
  rw [hM] at hmm1 hmm2
  have CM : Hid (∀ w, Calls Try.prog 16 #[.int .i64 margin, .int .i64 p] w fun e w' => e = .returned (.int .i64 M) ∧ w = w') := Lib.hid (fun w => by rw [← hM]; exact MD.out margin p (by omega) (by omega) w)
  obtain ⟨m1, hm1⟩ : ∃ x, 1 + M = x := ⟨_, rfl⟩
  have NW : Hid (∀ w, Calls Try.prog 11 #[.agg #[.int .i64 n1, .int .i64 m1, .int .i64 u1]] w fun e w' => ∃ H, e = .returned (.tuple #[.pointer (some ⟨H, 0, none⟩), .int .i64 0]) ∧ MeterAt w' H (Mt.new n1 m1 u1) ∧ w.heap.size ≤ H ∧ Below w.heap.size w w') := Lib.hid (fun w => new_c (by omega) (by omega) (by omega) (by omega) (by omega) (by omega) w)
  have KN : Hid ((Mt.new n1 m1 u1).Ok) := Lib.hid (Mt.new_ok (by omega) (by omega) (by omega) (by omega) (by omega) (by omega))
  have hx1 := Int.emod_nonneg a (show d1 ≠ 0 by omega)
  have hx2 := Int.emod_lt_of_pos a (show 0 < d1 by omega)
  have hy1 := Int.emod_nonneg c (show d1 ≠ 0 by omega)
  have hy2 := Int.emod_lt_of_pos c (show 0 < d1 by omega)
  obtain ⟨X, hX⟩ : ∃ x, a % d1 = x := ⟨_, rfl⟩
  obtain ⟨Y, hY⟩ : ∃ x, c % d1 = x := ⟨_, rfl⟩
  rw [hX] at hx1 hx2
  rw [hY] at hy1 hy2
  have CX : Hid (∀ w, Calls Try.prog 16 #[.int .i64 a, .int .i64 d1] w fun e w' => e = .returned (.int .i64 X) ∧ w = w') := Lib.hid (fun w => by rw [← hX]; exact MD.out a d1 (by omega) (by omega) w)
  have CY : Hid (∀ w, Calls Try.prog 16 #[.int .i64 c, .int .i64 d1] w fun e w' => e = .returned (.int .i64 Y) ∧ w = w') := Lib.hid (fun w => by rw [← hY]; exact MD.out c d1 (by omega) (by omega) w)
  obtain ⟨lo, hlo⟩ : ∃ x, min X Y = x := ⟨_, rfl⟩
  obtain ⟨hi, hhi⟩ : ∃ x, max X Y = x := ⟨_, rfl⟩
  obtain ⟨k1, hk1⟩ : ∃ x, 1 + lo = x := ⟨_, rfl⟩
  obtain ⟨k2, hk2⟩ : ∃ x, 1 + hi = x := ⟨_, rfl⟩
  have b1 : 0 ≤ lo := by omega
  have b2 : lo < 30 := by omega
  have b3 : 0 ≤ hi := by omega
  have b4 : hi < 30 := by omega
  obtain ⟨kn1, hkn1⟩ : ∃ m : Nat, k1 = m := ⟨k1.toNat, by omega⟩
  obtain ⟨kn2, hkn2⟩ : ∃ m : Nat, k2 = m := ⟨k2.toNat, by omega⟩
  obtain ⟨dn, hdn⟩ : ∃ m : Nat, d1 = m := ⟨d1.toNat, by omega⟩
  have FL0 : ∀ w, Calls Try.prog 20 #[.int .i64 k1, .int .i64 d1] w (GivesN (Q.mk' false kn1 dn) 2 w) := fun w => by rw [hkn1, hdn]; exact fraction_c kn1 dn (by omega) (by omega) (by omega) (by omega) w
  have FH0 : ∀ w, Calls Try.prog 20 #[.int .i64 k2, .int .i64 d1] w (GivesN (Q.mk' false kn2 dn) 2 w) := fun w => by rw [hkn2, hdn]; exact fraction_c kn2 dn (by omega) (by omega) (by omega) (by omega) w
  have f1 := frac_facts kn1 dn (by omega) (by omega) (by omega)
  have f2 := frac_facts kn2 dn (by omega) (by omega) (by omega)
  have MORE0 : ∀ s : Mt, s.Ok → Mt.conf s (Q.mk' false kn1 dn) = true → Mt.conf s (Q.mk' false kn2 dn) = true := fun s h g => Mt.conf_more h (by omega) (by omega) (by omega) g
  obtain ⟨q1, hq1⟩ : ∃ q, Q.mk' false kn1 dn = q := ⟨_, rfl⟩
  obtain ⟨q2, hq2⟩ : ∃ q, Q.mk' false kn2 dn = q := ⟨_, rfl⟩
  rw [hq1] at FL0 f1 MORE0
  rw [hq2] at FH0 f2 MORE0
  have FL := Lib.hid FL0
  have FH := Lib.hid FH0
  have F1 := Lib.hid f1
  have F2 := Lib.hid f2
  have MORE := Lib.hid MORE0
  obtain ⟨t1, ht1⟩ : ∃ t, q1.neg = t := ⟨_, rfl⟩
  obtain ⟨t2, ht2⟩ : ∃ t, q2.neg = t := ⟨_, rfl⟩
  have FL2 : Hid (∀ w, Calls Try.prog 20 #[.int .i64 k1, .int .i64 d1] w fun e w' => ∃ p l k p' l' k', e = .returned (.agg #[.bool t1, .slice p l k, .slice p' l' k']) ∧ RatN w' (.agg #[.bool t1, .slice p l k, .slice p' l' k']) q1 2 ∧ Below w.heap.size w w') := Lib.hid (fun w => by rw [← ht1]; exact FL.out w)
  have FH2 : Hid (∀ w, Calls Try.prog 20 #[.int .i64 k2, .int .i64 d1] w fun e w' => ∃ p l k p' l' k', e = .returned (.agg #[.bool t2, .slice p l k, .slice p' l' k']) ∧ RatN w' (.agg #[.bool t2, .slice p l k, .slice p' l' k']) q2 2 ∧ Below w.heap.size w w') := Lib.hid (fun w => by rw [← ht2]; exact FH.out w)
  subst hshape
  obtain ⟨len, hlen⟩ : ∃ k, l.length = k := ⟨_, rfl⟩
  have HLEN := Lib.hid hlen
  rw [hlen] at HV hv
  rw [hlen]
  have T0 := Blk.new w #[.int .i64 n1, .int .i64 0, .int .i64 u1] 24
  obtain ⟨tt0, tt1, tt2⟩ := T0.three
  have tf := T0.2.2 1
  have TT1 := Lib.hid (Blk.new w #[.int .i64 n1, .int .i64 m1, .int .i64 u1] 24)
  have hB0 : Below w.heap.size w (w.alloc (.cells #[.int .i64 n1, .int .i64 m1, .int .i64 u1] 24)) := (Below.refl _ _).alloc (Nat.le_refl _) _
  have hsz0 : w.heap.size < (w.alloc (.cells #[.int .i64 n1, .int .i64 m1, .int .i64 u1] 24)).heap.size := TT1.out.1
  clear hN hU hD hM hX hY MD FL0 FH0 f1 f2 MORE0 hq1 hq2 ht1 ht2 FL FH hkn1 hkn2 hdn hv hlen T0
  go_enter Try.func6, Try.ntmps6
  go_wp2_with (first
    | (go_at_call 16; ((with_reducible refine (C40.out _).mono ?_); rintro e w1 ⟨rfl, rfl⟩))
    | (go_at_call 16; ((with_reducible refine (C5.out _).mono ?_); rintro e w1 ⟨rfl, rfl⟩))
    | (go_at_call 16; ((with_reducible refine (CM.out _).mono ?_); rintro e w1 ⟨rfl, rfl⟩))
    | (go_at_call 16; ((with_reducible refine (C30.out _).mono ?_); rintro e w1 ⟨rfl, rfl⟩))
    | (go_at_call 16; ((with_reducible refine (CX.out _).mono ?_); rintro e w1 ⟨rfl, rfl⟩))
    | (go_at_call 16; ((with_reducible refine (CY.out _).mono ?_); rintro e w1 ⟨rfl, rfl⟩))
    | (go_at_call 11; ((with_reducible refine (NW.out _).mono ?_); rintro e w2 ⟨H, rfl, hm2, hH2, hb2⟩; have hB2 := bel2' hB0 hb2; have TT2 := Lib.hid (TT1.out.keep hb2); have hm2 := Lib.hid hm2; have hsz2 := hb2.size))
    | (go_at_call 20; ((with_reducible refine (FL2.out _).mono ?_); rintro e w3 ⟨p3, l3, c3, p4, l4, c4, rfl, hq3, hb3⟩; have hB3 := bel2' hB2 hb3; have TT3 := Lib.hid (TT2.out.keep hb3); have hm3 := Lib.hid (hm2.out.keep hb3); have hsz3 := hb3.size))
    | (go_at_call 20; ((with_reducible refine (FH2.out _).mono ?_); rintro e w4 ⟨p5, l5, c5, p6, l6, c6, rfl, hq4, hb4⟩; have hB4 := bel2' hB3 hb4; have TT4 := Lib.hid (TT3.out.keep hb4); have hm4 := Lib.hid (hm3.out.keep hb4); have hq34 := hq3.keep hb4; have hsz4 := hb4.size)))
  have hHlt := hm2.out.1
  have hH4 := hm4.out.1
  have L0 : Hid (Lim w H w.heap.size w4.heap.size (w4.heap.size + 1) (Mt.new n1 m1 u1) n1 m1 u1 #[.bool t1, .slice p3 l3 c3, .slice p4 l4 c4] #[.bool t2, .slice p5 l5 c5, .slice p6 l6 c6] (.agg #[.bool t1, .slice p3 l3 c3, .slice p4 l4 c4]) (.agg #[.bool t2, .slice p5 l5 c5, .slice p6 l6 c6]) q1 q2 (.slice p0 len cap0) l
      ((w4.alloc (.cells #[.bool t1, .slice p3 l3 c3, .slice p4 l4 c4] 30)).alloc (.cells #[.bool t2, .slice p5 l5 c5, .slice p6 l6 c6] 30))) := Lib.hid
    { m := Blk.alloc (Blk.alloc hm4.out _) _
      ok := KN.out
      n := rfl
      u := rfl
      t := (TT4.out.alloc _).alloc _
      a := (Blk.new w4 _ _).alloc _
      b := Blk.newAt _ _ _ (by simp)
      ra := (hq34.al _).al _
      rb := (hq4.al _).al _
      over := HV.out.keep (bal (bal hB4 _) _)
      below := bal (bal hB4 _) _
      dis := by omega }
  go_loopw [23, 24, 25] (fun wv iv _ wr => ∃ k : Nat, ∃ st : Mt, ∃ wb : Bool, k ≤ len ∧ (k : Int) ≤ n1 ∧ wv = .bool wb ∧ iv = .int .i64 k ∧ Hid (st.seen = k) ∧ Hid (wb = true → Mt.conf st q1 = true) ∧ Hid (Lim w H w.heap.size w4.heap.size (w4.heap.size + 1) st n1 m1 u1 #[.bool t1, .slice p3 l3 c3, .slice p4 l4 c4] #[.bool t2, .slice p5 l5 c5, .slice p6 l6 c6] (.agg #[.bool t1, .slice p3 l3 c3, .slice p4 l4 c4]) (.agg #[.bool t2, .slice p5 l5 c5, .slice p6 l6 c6]) q1 q2 (.slice p0 len cap0) l wr)) (fun _ iv _ _ => len - (intOf iv).toNat)
  case atStart => exact ⟨0, Mt.new n1 m1 u1, false, by omega, by omega, rfl, rfl, Lib.hid rfl, Lib.hid (fun h => by cases h), L0⟩
  case round =>
    obtain ⟨k, st, wb, hk, hkn, rfl, rfl, hseen, hwas, hL⟩ := hrel
    obtain ⟨y0, y1, y2⟩ := hL.out.t.three
    by_cases hlt : k < len ∧ (k : Int) < n1
    · obtain ⟨g1, g2⟩ := hlt
      obtain ⟨bb, off, hp0, hc1, hc2, hcell⟩ := hL.out.over.cellAt k (by rw [HLEN.out]; exact g1)
      subst hp0
      obtain ⟨z, hz⟩ : ∃ z, l.getD k 0 = z := ⟨_, rfl⟩
      rw [hz] at hcell
      have z1 : 0 ≤ z % 3 := by omega
      have z2 : z % 3 ≤ 2 := by omega
      obtain ⟨r, hr⟩ : ∃ r, z % 3 = r := ⟨_, rfl⟩
      rw [hr] at z1 z2
      have C3 : Hid (∀ w, Calls Try.prog 16 #[.int .i64 z, .int .i64 3] w fun e w' => e = .returned (.int .i64 r) ∧ w = w') := Lib.hid (fun w => by rw [← hr]; exact mod_c z 3 (by omega) (by omega) w)
      have e0 : r.tdiv 2 = r / 2 := Int.tdiv_eq_ediv_of_nonneg z1
      obtain ⟨o, ho⟩ : ∃ o, r.tdiv 2 = o := ⟨_, rfl⟩
      have o1 : 0 ≤ o := by omega
      have o2 : o ≤ 1 := by omega
      have uo : IntKind.i64.wrap o = o := w64 (by omega) (by omega)
      have hu := hL.out.u
      have hn := hL.out.n
      have ST := Lib.hid (step_c (o := o) hL.out.m hL.out.ok (by omega) (by omega) (by have := hseen.out; omega))
      have ok2 := Lib.hid (Mt.next_ok hL.out.ok (o := o) (by omega) (by omega) (by have := hseen.out; omega))
      have mono : Hid (wb = true → Mt.conf (st.next o) q1 = true) := Lib.hid (fun h => Mt.conf_next hL.out.ok (by omega) (hwas.out h))
      obtain ⟨s2, hs2⟩ : ∃ s2, st.next o = s2 := ⟨_, rfl⟩
      have hseen2 : Hid (s2.seen = ((k + 1 : Nat) : Int)) := Lib.hid (by rw [← hs2]; show st.seen + 1 = _; have := hseen.out; omega)
      have hnn : Hid (s2.n = st.n ∧ s2.u = st.u) := Lib.hid (by rw [← hs2]; exact ⟨rfl, rfl⟩)
      rw [hs2] at ST ok2 mono
      obtain ⟨c1, hc1'⟩ : ∃ t, Mt.conf s2 q1 = t := ⟨_, rfl⟩
      obtain ⟨c2, hc2'⟩ : ∃ t, Mt.conf s2 q2 = t := ⟨_, rfl⟩
      have hm12 := MORE.out s2 ok2.out
      have CF1 : Hid (∀ v w', MeterAt w' H s2 → RatN w' v q1 2 → Calls Try.prog 14 #[.pointer (some ⟨H, 0, none⟩), v] w' fun e w'' => e = .returned (.bool c1) ∧ Below w'.heap.size w' w'') := Lib.hid (fun v w' h g => by
        have := conf_c h ok2.out g F1.out.1 F1.out.2.1 F1.out.2.2.1 F1.out.2.2.2
        rw [hc1'] at this
        exact this)
      have CF2 : Hid (∀ v w', MeterAt w' H s2 → RatN w' v q2 2 → Calls Try.prog 14 #[.pointer (some ⟨H, 0, none⟩), v] w' fun e w'' => e = .returned (.bool c2) ∧ Below w'.heap.size w' w'') := Lib.hid (fun v w' h g => by
        have := conf_c h ok2.out g F2.out.1 F2.out.2.1 F2.out.2.2.1 F2.out.2.2.2
        rw [hc2'] at this
        exact this)
      rw [hc1', hc2'] at hm12
      have hmo := mono.out
      rw [hc1'] at hmo
      have HC1 := Lib.hid hc1'
      have hcs : (wb = false ∧ c1 = false) ∨ (c1 = true ∧ c2 = true) := by
        cases c1
        · left
          refine ⟨?_, rfl⟩
          cases wb
          · rfl
          · exact absurd (hmo rfl) (by simp)
        · exact .inr ⟨rfl, hm12 rfl⟩
      clear hz hr e0 hu hn hs2 hc1' hc2' hm12 hmo mono
      rcases hcs with ⟨rfl, rfl⟩ | ⟨rfl, rfl⟩
      · go_wp2_with (first
          | (go_at_call 16; ((with_reducible refine (C3.out _).mono ?_); rintro e w5 ⟨rfl, rfl⟩))
          | (go_at_call 12; ((with_reducible refine (ST.out).mono ?_); rintro e w5 ⟨rfl, hm5, ho5⟩; have L5 := Lib.hid (hL.out.step HV.out ho5 hm5 ok2.out hnn.out.1 hnn.out.2); obtain ⟨x0, x1, x2⟩ := L5.out.a.three; obtain ⟨v0, v1, v2⟩ := L5.out.b.three))
          | (go_at_call 14; ((with_reducible refine (CF1.out _ _ L5.out.m L5.out.ra).mono ?_); rintro e w6 ⟨rfl, hb6⟩; have L6 := Lib.hid (L5.out.keep hb6); obtain ⟨i0, i1, i2⟩ := L6.out.b.three)))
        go_roundw
        case rel => exact ⟨k + 1, s2, false, by omega, by omega, rfl, by go_num, hseen2, Lib.hid (fun h => by cases h), L6⟩
        case measure => simp [intOf] <;> omega
      · cases wb
        all_goals
          go_wp2_with (first
            | (go_at_call 16; ((with_reducible refine (C3.out _).mono ?_); rintro e w5 ⟨rfl, rfl⟩))
            | (go_at_call 12; ((with_reducible refine (ST.out).mono ?_); rintro e w5 ⟨rfl, hm5, ho5⟩; have L5 := Lib.hid (hL.out.step HV.out ho5 hm5 ok2.out hnn.out.1 hnn.out.2); obtain ⟨x0, x1, x2⟩ := L5.out.a.three; obtain ⟨v0, v1, v2⟩ := L5.out.b.three))
            | (go_at_call 14; ((with_reducible refine (CF1.out _ _ L5.out.m L5.out.ra).mono ?_); rintro e w6 ⟨rfl, hb6⟩; have L6 := Lib.hid (L5.out.keep hb6); obtain ⟨i0, i1, i2⟩ := L6.out.b.three))
            | (go_at_call 14; ((with_reducible refine (CF2.out _ _ L6.out.m L6.out.rb).mono ?_); rintro e w7 ⟨rfl, hb7⟩; have L7 := Lib.hid (L6.out.keep hb7))))
          go_roundw
          case rel => exact ⟨k + 1, s2, true, by omega, by omega, rfl, by go_num, hseen2, Lib.hid (fun _ => HC1.out), L7⟩
          case measure => simp [intOf] <;> omega
    · have hcase : (k = len) ∨ (k < len ∧ ¬ (k : Int) < n1) := by omega
      rcases hcase with rfl | ⟨g1, g2⟩
      · go_wp2_with (go_at_call 15; ((with_reducible refine (awake_c _).mono ?_); rintro e w8 ⟨rfl, hb8⟩))
        go_ret
        exact ⟨rfl, bel2' hL.out.below hb8⟩
      · have g3 : decide ((k : Int) < n1) = false := decide_eq_false g2
        go_wp2_with (go_at_call 15; ((with_reducible refine (awake_c _).mono ?_); rintro e w8 ⟨rfl, hb8⟩))
        go_ret
        exact ⟨rfl, bel2' hL.out.below hb8⟩

end Go.Proofs.Ytlhkjkhbgebgiaa
