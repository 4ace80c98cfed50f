/- Walk of MartingaleProven. -/
import Derived.Test.YtlhkjkhbgebgiaaV8
import Derived.Deep.RegionHeld3
namespace Go.Proofs.Nums

/-- After all items the room says what the sum says. -/
theorem Mt.proven_iff {s : Mt} (h : s.Ok) {sum : Int} (hr : s.room = sum - s.mg) : s.pr = decide (sum < s.mg) := by
  rw [h.p, decide_eq_decide]
  omega

end Go.Proofs.Nums
namespace Go.Proofs.Ytlhkjkhbgebgiaa
open Go.RowKit Go.Proofs.Kit Go.Proofs.Nums

/-- The state of the loop. -/
structure Prv (w0 : World) (H T : Nat) (st : Mt) (n1 m1 u1 : Int) (v : Value) (l : List Int) (pv : Value) (pl : List Int) (w : World) : Prop where
  m : MeterAt w H st
  ok : st.Ok
  n : st.n = n1
  mg : st.mg = m1
  u : st.u = u1
  t : Blk T #[.int .i64 n1, .int .i64 m1, .int .i64 u1] w
  over : IntsAt w v l
  perm : IntsAt w pv pl
  pf : Fresh (H + 1) pv
  below : Below w0.heap.size w0 w
  dis : w0.heap.size ≤ H ∧ H ≠ T
theorem Prv.keep {w0 : World} {H T : Nat} {st : Mt} {n1 m1 u1 : Int} {v : Value} {l : List Int} {pv : Value} {pl : List Int} {w w' : World} (h : Prv w0 H T st n1 m1 u1 v l pv pl w) (hb : Below w.heap.size w w') : Prv w0 H T st n1 m1 u1 v l pv pl w' :=
  ⟨h.m.keep hb, h.ok, h.n, h.mg, h.u, h.t.keep hb, h.over.keep hb, h.perm.keep hb, h.pf, bel2' h.below hb, h.dis⟩
theorem Prv.step {w0 : World} {H T : Nat} {st st' : Mt} {n1 m1 u1 : Int} {v : Value} {l : List Int} {pv : Value} {pl : List Int} {w w' : World} (h : Prv w0 H T st n1 m1 u1 v l pv pl w) (hv : IntsAt w0 v l) (ho : OnlyH H w w') (hm : MeterAt w' H st') (hok : st'.Ok) (hn : st'.n = st.n) (hg : st'.mg = st.mg) (hu : st'.u = st.u) : Prv w0 H T st' n1 m1 u1 v l pv pl w' := by
  obtain ⟨d1, d2⟩ := h.dis
  have hs := ho.below.size
  have hbel : Below w0.heap.size w0 w' := h.below.trans (ho.below.mono d1)
  exact ⟨hm, hok, hn.trans h.n, hg.trans h.mg, hu.trans h.u, h.t.off (ho.heap T (Ne.symm d2)) hs, hv.keep hbel, RowAt.same h.perm (fun b hb => ho.heap b (by have := h.pf b hb; omega)), h.pf, hbel, h.dis⟩

set_option maxRecDepth 100000 in
set_option maxHeartbeats 16000000 in
theorem walk_MartingaleProven {w : World} (v : Value) (l0 : List Int) (hv0 : IntsAt w v l0) (upper margin code : Int) (hcode1 : -9223372036854775808 ≤ code) (hcode2 : code ≤ 9223372036854775807) :
    Calls Try.prog 5 #[v, .int .i64 upper, .int .i64 margin, .int .i64 code] w fun e w' => e = .returned (.bool true) ∧ Below w.heap.size w w' := by
  have MD := Lib.hid (fun x k (h1 : (1 : Int) ≤ k) (h2 : k ≤ 1000000) w => mod_c x k h1 h2 w)
  obtain ⟨U, hU0, hU1, hU⟩ : ∃ U, 0 ≤ U ∧ U ≤ 4 ∧ U = upper % 5 := ⟨_, by omega, by omega, rfl⟩
  have C5 : Hid (∀ w, Calls Try.prog 16 #[.int .i64 upper, .int .i64 5] w fun e w' => e = .returned (.int .i64 U) ∧ w = w') := Lib.hid (fun w => by rw [hU]; exact MD.out upper 5 (by omega) (by omega) w)
  obtain ⟨u1, hu1⟩ : ∃ x, 2 + U = x := ⟨_, rfl⟩
  have a3 : 2 ≤ u1 := by omega
  have a4 : u1 ≤ 6 := by omega
  obtain ⟨l, hl⟩ : ∃ l, l0.take 10 = l := ⟨_, rfl⟩
  have hlen10 : l.length ≤ 10 := by rw [← hl, List.length_take]; omega
  obtain ⟨len, hlen⟩ : ∃ k, l.length = k := ⟨_, rfl⟩
  have HLEN := Lib.hid hlen
  have CI : Hid (Calls Try.prog 18 #[v, .int .i64 10] w fun e w' => ∃ p c, e = .returned (.slice p len c) ∧ IntsAt w (.slice p len c) l ∧ w = w') := Lib.hid ((ints_c hv0 10 10 rfl (by omega)).mono (by
    rintro e w' ⟨v', rfl, h1, rfl⟩
    rw [hl] at h1
    obtain ⟨p, c, e2⟩ := h1.shape
    subst e2
    rw [hlen] at h1 ⊢
    exact ⟨p, c, rfl, h1, rfl⟩))
  rw [hlen] at hlen10
  rcases Nat.eq_zero_or_pos len with hz | hpos
  · have hzz : ((len : Int) == 0) = true := by rw [hz]; rfl
    clear MD hU hl hlen hv0 hcode1 hcode2
    subst hz
    go_enter Try.func5, Try.ntmps5
    go_wp2_with (first
      | (go_at_call 16; ((with_reducible refine (C5.out _).mono ?_); rintro e w1 ⟨rfl, rfl⟩))
      | (go_at_call 18; ((with_reducible refine (CI.out).mono ?_); rintro e w1 ⟨p1, c1, rfl, hi1, rfl⟩))
      | (go_at_call 15; ((with_reducible refine (awake_c _).mono ?_); rintro e w8 ⟨rfl, hb8⟩)))
    go_ret
    exact ⟨rfl, hb8⟩
  · obtain ⟨n1, hn1⟩ : ∃ x : Int, (len : Int) = x := ⟨_, rfl⟩
    have a1 : 1 ≤ n1 := by omega
    have a2 : n1 ≤ 10 := by omega
    have hzz : (n1 == 0) = false := by rw [beq_eq_false_iff_ne]; omega
    have hp1 : n1 * u1 ≤ 10 * 6 := Int.mul_le_mul a2 a4 (by omega) (by omega)
    have hp0 : 1 * 2 ≤ n1 * u1 := Int.mul_le_mul a1 a3 (by omega) (by omega)
    obtain ⟨p, hp⟩ : ∃ x, n1 * u1 = x := ⟨_, rfl⟩
    rw [hp] at hp0 hp1
    have hmm1 := Int.emod_nonneg margin (show p ≠ 0 by omega)
    have hmm2 := Int.emod_lt_of_pos margin (show 0 < p by omega)
    obtain ⟨M, hM⟩ : ∃ x, margin % p = x := ⟨_, rfl⟩
    rw [hM] at hmm1 hmm2
    have CM : Hid (∀ w, Calls Try.prog 16 #[.int .i64 margin, .int .i64 p] w fun e w' => e = .returned (.int .i64 M) ∧ w = w') := Lib.hid (fun w => by rw [← hM]; exact MD.out margin p (by omega) (by omega) w)
    obtain ⟨m1, hm1⟩ : ∃ x, 1 + M = x := ⟨_, rfl⟩
    have NW : Hid (∀ w, Calls Try.prog 11 #[.agg #[.int .i64 n1, .int .i64 m1, .int .i64 u1]] w fun e w' => ∃ H, e = .returned (.tuple #[.pointer (some ⟨H, 0, none⟩), .int .i64 0]) ∧ MeterAt w' H (Mt.new n1 m1 u1) ∧ w.heap.size ≤ H ∧ Below w.heap.size w w') := Lib.hid (fun w => new_c (by omega) (by omega) (by omega) (by omega) (by omega) (by omega) w)
    have KN : Hid ((Mt.new n1 m1 u1).Ok) := Lib.hid (Mt.new_ok (by omega) (by omega) (by omega) (by omega) (by omega) (by omega))
    have RN : Hid ((Mt.new n1 m1 u1).room = p - m1) := Lib.hid (by show n1 * u1 - m1 = _; rw [hp])
    have PE : Hid (∀ w, Calls Try.prog 19 #[.int .i64 n1, .int .i64 code] w fun e w' => ∃ q c, ∃ pl : List Int, e = .returned (.slice q len c) ∧ IntsAt w' (.slice q len c) pl ∧ Hid (pl.length = len) ∧ Hid (∀ x ∈ pl, 0 ≤ x ∧ x < n1) ∧ Fresh w.heap.size (.slice q len c) ∧ Below w.heap.size w w') := Lib.hid (fun w => by
      have := perm_c len (by omega) code hcode1 hcode2 w
      rw [hn1] at this
      refine this.mono ?_
      rintro e w' ⟨v', rfl, ⟨pl, g1, g2, g3, g4, _⟩, g6⟩
      obtain ⟨q, c, e2⟩ := g1.shape
      subst e2
      rw [g2] at g1 g4 ⊢
      exact ⟨q, c, pl, rfl, g1, Lib.hid g2, Lib.hid g3, g4, g6⟩)
    obtain ⟨b1, hb1'⟩ : ∃ x, 2 * u1 = x := ⟨_, rfl⟩
    obtain ⟨b2, hb2'⟩ : ∃ x, b1 + 1 = x := ⟨_, rfl⟩
    have b3 : 5 ≤ b2 := by omega
    have b4 : b2 ≤ 13 := by omega
    have hB0 : Below w.heap.size w (w.alloc (.cells #[.int .i64 n1, .int .i64 m1, .int .i64 u1] 24)) := (Below.refl _ _).alloc (Nat.le_refl _) _
    have TT1 := Lib.hid (Blk.new w #[.int .i64 n1, .int .i64 m1, .int .i64 u1] 24)
    have hsz0 := TT1.out.1
    obtain ⟨tt0, tt1, tt2⟩ := TT1.out.three
    have HB2 := Lib.hid (show b2 = 2 * u1 + 1 by omega)
    clear hU hl hlen hM hcode1 hcode2
    go_enter Try.func5, Try.ntmps5
    go_wp2_with (first
      | (go_at_call 16; ((with_reducible refine (C5.out _).mono ?_); rintro e w1 ⟨rfl, rfl⟩))
      | (go_at_call 18; ((with_reducible refine (CI.out).mono ?_); rintro e w1 ⟨p1, c1, rfl, hi1, rfl⟩; have HI := Lib.hid hi1))
      | (go_at_call 16; ((with_reducible refine (CM.out _).mono ?_); rintro e w1 ⟨rfl, rfl⟩))
      | (go_at_call 11; ((with_reducible refine (NW.out _).mono ?_); rintro e w2 ⟨H, rfl, hm2, hH2, hb2⟩; have hB2 := bel2' hB0 hb2; have TT2 := Lib.hid (TT1.out.keep hb2); have hm2 := Lib.hid hm2; have hsz2 := hb2.size))
      | (go_at_call 19; ((with_reducible refine (PE.out _).mono ?_); rintro e w3 ⟨q3, c3, pl, rfl, hpl, hpn, hpx, hpf, hb3⟩; have hB3 := bel2' hB2 hb3; have TT3 := Lib.hid (TT2.out.keep hb3); have hm3 := Lib.hid (hm2.out.keep hb3); have hsz3 := hb3.size)))
    have hHlt := hm2.out.1
    have L0 : Hid (Prv w H w.heap.size (Mt.new n1 m1 u1) n1 m1 u1 (.slice p1 len c1) l (.slice q3 len c3) pl w3) := Lib.hid
      { m := hm3.out
        ok := KN.out
        n := rfl
        mg := rfl
        u := rfl
        t := TT3.out
        over := HI.out.keep hB3
        perm := hpl
        pf := hpf.mono (by omega)
        below := hB3
        dis := by omega }
    clear hpf hpl
    go_loopw [15, 16, 17] (fun sv iv _ wr => ∃ sum : Int, ∃ k : Nat, ∃ st : Mt, k ≤ len ∧ -100 * (k : Int) ≤ sum ∧ sum ≤ 100 * (k : Int) ∧ sv = .int .i64 sum ∧ iv = .int .i64 k ∧ Hid (st.seen = k ∧ st.room = p - m1 - (k : Int) * u1 + sum) ∧ Hid (Prv w H w.heap.size st n1 m1 u1 (.slice p1 len c1) l (.slice q3 len c3) pl wr)) (fun _ iv _ _ => len - (intOf iv).toNat)
    case atStart => exact ⟨0, 0, Mt.new n1 m1 u1, by omega, by omega, by omega, rfl, rfl, Lib.hid ⟨rfl, by rw [RN.out]; simp⟩, L0⟩
    case round =>
      obtain ⟨sum, k, st, hk, hs1, hs2, rfl, rfl, hst, hL⟩ := hrel
      by_cases hlt : k < len
      · have hlti : (k : Int) < n1 := by omega
        obtain ⟨bb, off, hp0', hc1, hc2, hcell⟩ := hL.out.perm.cellAt k (by rw [hpn.out]; exact hlt)
        subst hp0'
        obtain ⟨x, hx⟩ : ∃ x, pl.getD k 0 = x := ⟨_, rfl⟩
        rw [hx] at hcell
        have hxb : 0 ≤ x ∧ x < n1 := by
          rw [← hx, List.getD_eq_getElem?_getD, List.getElem?_eq_getElem (by rw [hpn.out]; exact hlt)]
          exact hpx.out _ (List.getElem_mem _)
        obtain ⟨j, hj⟩ : ∃ j : Nat, x = j := ⟨x.toNat, by omega⟩
        subst hj
        obtain ⟨x1, x2⟩ := hxb
        have hjl : j < len := by omega
        obtain ⟨ob, ooff, ho0, ho1, ho2, hocell⟩ := hL.out.over.cellAt j (by rw [HLEN.out]; exact hjl)
        subst ho0
        obtain ⟨z, hz⟩ : ∃ z, l.getD j 0 = z := ⟨_, rfl⟩
        rw [hz] at hocell
        have r1 := Int.emod_nonneg z (show b2 ≠ 0 by omega)
        have r2 := Int.emod_lt_of_pos z (show 0 < b2 by omega)
        obtain ⟨r, hr⟩ : ∃ r, z % b2 = r := ⟨_, rfl⟩
        rw [hr] at r1 r2
        have CZ : Hid (∀ w, Calls Try.prog 16 #[.int .i64 z, .int .i64 b2] w fun e w' => e = .returned (.int .i64 r) ∧ w = w') := Lib.hid (fun w => by rw [← hr]; exact mod_c z b2 (by omega) (by omega) w)
        obtain ⟨o, ho⟩ : ∃ o, r - u1 = o := ⟨_, rfl⟩
        have o1 : -u1 ≤ o := by omega
        have o2 : o ≤ u1 := by omega
        obtain ⟨s2, hs2'⟩ : ∃ x, sum + o = x := ⟨_, rfl⟩
        have hu := hL.out.u
        have hn := hL.out.n
        have ST := Lib.hid (step_c (o := o) hL.out.m hL.out.ok (by omega) (by omega) (by have := hst.out.1; omega))
        have ok2 := Lib.hid (Mt.next_ok hL.out.ok (o := o) (by omega) (by omega) (by have := hst.out.1; omega))
        have hroom : Hid ((st.next o).seen = ((k + 1 : Nat) : Int) ∧ (st.next o).room = p - m1 - ((k + 1 : Nat) : Int) * u1 + s2) := Lib.hid (by
          have h1 := hst.out.1
          have h2 := hst.out.2
          refine ⟨by show st.seen + 1 = _; omega, ?_⟩
          show st.room - (st.u - o) = _
          rw [h2, hu]
          push_cast
          rw [Int.add_mul]
          omega)
        have hnn : Hid ((st.next o).n = st.n ∧ (st.next o).mg = st.mg ∧ (st.next o).u = st.u) := Lib.hid ⟨rfl, rfl, rfl⟩
        obtain ⟨st2, hst2⟩ : ∃ s, st.next o = s := ⟨_, rfl⟩
        rw [hst2] at ST ok2 hroom hnn
        have hs2a := Lib.hid hs2'
        clear hx hz hr hu hn hst2
        go_wp2_with (first
          | (go_at_call 16; ((with_reducible refine (CZ.out _).mono ?_); rintro e w5 ⟨rfl, rfl⟩))
          | (go_at_call 12; ((with_reducible refine (ST.out).mono ?_); rintro e w5 ⟨rfl, hm5, ho5⟩; have L5 := Lib.hid (hL.out.step (HI.out) ho5 hm5 ok2.out hnn.out.1 hnn.out.2.1 hnn.out.2.2))))
        go_roundw
        case rel => exact ⟨s2, k + 1, st2, by omega, by have := hs2a.out; omega, by have := hs2a.out; omega, rfl, by go_num, hroom, L5⟩
        case measure => simp [intOf] <;> omega
      · obtain rfl : k = len := by omega
        have hpr : Hid (st.pr = decide (sum < m1)) := Lib.hid (by
          have h1 := Mt.proven_iff (s := st) (sum := sum) hL.out.ok (by
            have h2 := hst.out.2
            rw [h2, hL.out.mg, hn1]
            rw [hp]
            omega)
          rw [hL.out.mg] at h1
          exact h1)
        obtain ⟨y0, y1, y2⟩ := hL.out.t.three
        have LT := Lib.hid (hL.out.keep (Below.refl _ _).drew)
        have PV : Hid (∀ w', MeterAt w' H st → Calls Try.prog 13 #[.pointer (some ⟨H, 0, none⟩)] w' fun e w'' => e = .returned (.bool (decide (sum < m1))) ∧ w' = w'') := Lib.hid (fun w' h => by rw [← hpr.out]; exact proven_c h)
        have hlen' : ¬ k < k := by omega
        go_wp2_with fail
        go_region_held3 (fun w' => w'.cell? ⟨w.heap.size, 0, none⟩ = some (.int .i64 n1) ∧ w'.cell? ⟨w.heap.size, 1, none⟩ = some (.int .i64 m1) ∧ w'.cell? ⟨w.heap.size, 2, none⟩ = some (.int .i64 u1))
          (first | exact LT.out.t.three | exact L8.out.t.three)
          (first
            | (go_at_call 15; ((with_reducible refine (awake_c _).mono ?_); rintro e w8 ⟨rfl, hb8⟩; have L8 := Lib.hid (LT.out.keep hb8)))
            | (go_at_call 13; ((with_reducible refine (PV.out _ L8.out.m).mono ?_); rintro e w9 ⟨rfl, rfl⟩)))
        all_goals
          go_wp2_with fail
          go_ret
          refine ⟨?_, L8.out.below⟩
          simp

end Go.Proofs.Ytlhkjkhbgebgiaa
