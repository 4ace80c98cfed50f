/- Walk of MartingaleSteps, as it is handed in (raw). -/
import Derived.Test.YtlhkjkhbgebgiaaS9
import Derived.Deep.RegionHeld3
namespace Go.Proofs.Ytlhkjkhbgebgiaa
open Go.RowKit Go.Proofs.Kit Go.Proofs.Nums

set_option maxRecDepth 100000 in
set_option maxHeartbeats 16000000 in
theorem steps_raw {w : World} (n mg u : Int) (v : Value) (l : List Int) (hv : IntsAt w v l) (rv : Value) (ng : Bool) (ra rb : List Nat) (hr : RatL w rv ng ra rb) (ha : ra.length ≤ 4) (hb : rb.length ≤ 4) (a b : Int) :
    Calls Try.prog 7 #[.agg #[.int .i64 n, .int .i64 mg, .int .i64 u], .bool true, v, rv, .int .i64 a, .int .i64 b] w fun e w' => e = .returned (.bool true) ∧ Below w.heap.size w w' := by
  have hr2 := hr
  obtain ⟨vn, vd, rfl, gn, gd⟩ := hr
  obtain ⟨p1, k1, rfl⟩ := gn.shape
  obtain ⟨p2, k2, rfl⟩ := gd.shape
  obtain ⟨p0, c0, rfl⟩ := hv.shape
  obtain ⟨l1, hl1⟩ : ∃ k, ra.length = k := ⟨_, rfl⟩
  obtain ⟨l2, hl2⟩ : ∃ k, rb.length = k := ⟨_, rfl⟩
  obtain ⟨len, hlen⟩ : ∃ k, l.length = k := ⟨_, rfl⟩
  have HLEN := Lib.hid hlen
  have HA := Lib.hid ha
  have HB := Lib.hid hb
  rw [hl1] at hr2 ha
  rw [hl2] at hr2 hb
  rw [hlen] at hv
  rw [hl1, hl2, hlen]
  have g1 : ¬ (4 : Int) < (l1 : Int) := by omega
  have g2 : ¬ (4 : Int) < (l2 : Int) := by omega
  obtain ⟨w2, hw2⟩ : ∃ x, (w.alloc (.cells #[.int .i64 n, .int .i64 mg, .int .i64 u] 24)) = x := ⟨_, rfl⟩
  have b2 : Below w.heap.size w w2 := by rw [← hw2]; exact (Below.refl _ _).alloc (Nat.le_refl _) _
  have t2 : Blk w.heap.size #[.int .i64 n, .int .i64 mg, .int .i64 u] w2 := by rw [← hw2]; exact Blk.new _ _ _
  have s2 : w2.heap.size = w.heap.size + 1 := by rw [← hw2]; simp
  obtain ⟨w3, hw3⟩ : ∃ x, (w2.alloc (.cells #[.bool ng, .slice p1 l1 k1, .slice p2 l2 k2] 30)) = x := ⟨_, rfl⟩
  have b3 : Below w2.heap.size w2 w3 := by rw [← hw3]; exact (Below.refl _ _).alloc (Nat.le_refl _) _
  have hB3 : Below w.heap.size w w3 := bel2' b2 b3
  have t3 := t2.keep b3
  have k3 : Blk (w.heap.size + 1) #[.bool ng, .slice p1 l1 k1, .slice p2 l2 k2] w3 := by rw [← hw3, ← s2]; exact Blk.new _ _ _
  have s3 : w3.heap.size = w.heap.size + 2 := by rw [← hw3]; simp [s2]
  have hv3 := hv.keep hB3
  have hr3 := hr2.keep hB3
  obtain ⟨m0, m1, m2⟩ := t3.three
  obtain ⟨n0, n1', n2'⟩ := k3.three
  have T3 := Lib.hid t3
  have K3 := Lib.hid k3
  have V3 := Lib.hid hv3
  have R3 := Lib.hid hr3
  by_cases hgood : 1 ≤ n ∧ n ≤ 1024 ∧ 2 ≤ u ∧ u ≤ 6 ∧ 1 ≤ mg ∧ mg ≤ n * u
  case neg =>
    have NB := Lib.hid (new_bad hgood)
    have RB := Lib.hid (rnew_bad hgood)
    clear hgood t2 b2 b3 hr2 hv gn gd t3 k3 hv3 hr3
    go_enter Try.func7, Try.ntmps7
    go_wp2_with (first
      | (go_at_call 11; ((with_reducible refine (NB.out _).mono ?_); rintro e w4 ⟨rfl, hb4⟩; have hB4 := bel2' hB3 hb4; obtain ⟨q0, q1, q2⟩ := (T3.out.keep hb4).three))
      | (go_at_call 21; ((with_reducible refine (RB.out _).mono ?_); rintro e w5 ⟨rfl, hb5⟩; have hB5 := bel2' hB4 hb5))
      | (go_at_call 15; ((with_reducible refine (awake_c _).mono ?_); rintro e w8 ⟨rfl, hb8⟩; have hB8 := bel2' (hB5.alloc hB5.size _) hb8)))
    go_ret
    exact ⟨rfl, hB8⟩
  case pos =>
    obtain ⟨a1, a2, a3, a4, a5, a6⟩ := hgood
    have NG : Hid (∀ w, Calls Try.prog 11 #[.agg #[.int .i64 n, .int .i64 mg, .int .i64 u]] w fun e w' => ∃ H, e = .returned (.tuple #[.pointer (some ⟨H, 0, none⟩), .int .i64 0]) ∧ MeterAt w' H (Mt.new n mg u) ∧ w.heap.size ≤ H ∧ Below w.heap.size w w') := Lib.hid (fun w => new_c a1 a2 a3 a4 a5 a6 w)
    have KN : Hid ((Mt.new n mg u).Ok) := Lib.hid (Mt.new_ok a1 a2 a3 a4 a5 a6)
    obtain ⟨rm, hrm⟩ : ∃ x, n * u - mg = x := ⟨_, rfl⟩
    have HRM := Lib.hid hrm
    have RG : Hid (∀ w, Calls Try.prog 21 #[.agg #[.int .i64 n, .int .i64 mg, .int .i64 u]] w fun e w' => e = .returned (.tuple #[.agg #[.int .i64 n, .int .i64 mg, .int .i64 u, .int .i64 n, .int .i64 rm, .int .i64 4294967296, .int .i64 4294967296, .bool false], .int .i64 0]) ∧ Below w.heap.size w w') := Lib.hid (fun w => by
      have := rnew_c a1 a2 a3 a4 a5 a6 w
      rw [hrm] at this
      exact this)
    clear t2 b2 b3 hr2 hv gn gd t3 k3 hv3 hr3 hrm a6
    go_enter Try.func7, Try.ntmps7
    go_wp2_with (first
      | (go_at_call 11; ((with_reducible refine (NG.out _).mono ?_); rintro e w4 ⟨H, rfl, hm4, hH4, hb4⟩; have hm4 := Lib.hid hm4; have hB4 := bel2' hB3 hb4; have hB34 := hb4; obtain ⟨q0, q1, q2⟩ := (T3.out.keep hb4).three))
      | (go_at_call 21; ((with_reducible refine (RG.out _).mono ?_); rintro e w5 ⟨rfl, hb5⟩; have hm5 := Lib.hid (hm4.out.keep hb5); have hB35 := bel2' hB34 hb5; have hB5 := bel2' hB4 hb5)))
    have hlt5 := hm5.out.1
    have hs45 := hB35.size
    have L0 : Hid (Stp w3 w.heap.size (w.heap.size + 1) H w5.heap.size (Mt.new n mg u) n mg u ng (.slice p1 l1 k1) (.slice p2 l2 k2) (.slice p0 len c0) ra rb l (w5.alloc (.cells #[.int .i64 n, .int .i64 mg, .int .i64 u, .int .i64 n, .int .i64 rm, .int .i64 4294967296, .int .i64 4294967296, .bool false] 50))) := Lib.hid
      { m := hm5.out.keep ((Below.refl _ _).alloc (Nat.le_refl _) _)
        r := by
          have KE : Mt.new n mg u = ⟨n, mg, u, 0, rm, 4294967296, 4294967296, false⟩ := by unfold Mt.new; rw [HRM.out]
          rw [KE]
          exact RMeterAt.of (Blk.new w5 _ _) (Int.sub_zero n)
        ok := KN.out
        n := rfl
        u := rfl
        below := hB35.alloc hs45 _
        hH := hH4
        hR := hs45
        ne := Nat.ne_of_lt hlt5
        t3 := T3.out
        k3 := K3.out
        rl3 := R3.out
        o3 := V3.out }
    clear m0 m1 m2 n0 n1' n2' q0 q1 q2
    go_loopw [17, 18] (fun iv _ wr => ∃ k : Nat, ∃ st : Mt, k ≤ len ∧ k ≤ 40 ∧ iv = .int .i64 k ∧ Hid (Stp w3 w.heap.size (w.heap.size + 1) H w5.heap.size st n mg u ng (.slice p1 l1 k1) (.slice p2 l2 k2) (.slice p0 len c0) ra rb l wr)) (fun iv _ _ => len - (intOf iv).toNat)
    case atStart => exact ⟨0, Mt.new n mg u, by omega, by omega, rfl, L0⟩
    case round =>
      obtain ⟨k, st, hk, hk40, rfl, hL⟩ := hrel
      by_cases hlt : k < len ∧ k < 40
      · obtain ⟨h1, h2⟩ := hlt
        have h1' : (k : Int) < (len : Int) := by omega
        have h2' : (k : Int) < 40 := by omega
        obtain ⟨bb, off, hp0, hc1, hc2, hcell⟩ := hL.out.over.cellAt k (by rw [HLEN.out]; exact h1)
        subst hp0
        obtain ⟨o, ho⟩ : ∃ z, l.getD k 0 = z := ⟨_, rfl⟩
        rw [ho] at hcell
        have ST := Lib.hid (step_all o hL.out.m hL.out.ok)
        have RS : Hid (∀ w', RMeterAt w' w5.heap.size st → Calls Try.prog 22 #[.pointer (some ⟨w5.heap.size, 0, none⟩), .int .i64 o] w' fun e w'' => e = .returned (.int .i64 (st.code o)) ∧ RMeterAt w'' w5.heap.size (st.after o) ∧ (∀ b cs, b ≠ w5.heap.size → Blk b cs w' → Blk b cs w'') ∧ Below w5.heap.size w' w'') := Lib.hid (fun w' h => rstep_all o h hL.out.ok)
        obtain ⟨cd, hcd⟩ : ∃ c, st.code o = c := ⟨_, rfl⟩
        rw [hcd] at ST RS
        obtain ⟨st2, hst2⟩ : ∃ s, st.after o = s := ⟨_, rfl⟩
        have ok2 := (Mt.after_ok hL.out.ok o)
        have AF2 : Hid (∀ w1 w2, MeterAt w1 H st2 → Below H wr w1 → RMeterAt w2 w5.heap.size st2 → (∀ b cs, b ≠ w5.heap.size → Blk b cs w1 → Blk b cs w2) → Below w5.heap.size w1 w2 → Stp w3 w.heap.size (w.heap.size + 1) H w5.heap.size st2 n mg u ng (.slice p1 l1 k1) (.slice p2 l2 k2) (.slice (some ⟨bb, off, none⟩) len c0) ra rb l w2) := Lib.hid (fun w1 w2 h1 h2 h3 h4 h5 => by
          rw [← hst2] at h1 h3 ⊢
          exact hL.out.both h1 h2 h3 h4 h5)
        rw [hst2] at ST RS ok2
        have hn2 : st2.n = n := ok2.2.1.trans hL.out.n
        have bs1 := ok2.1.s1
        have bs2 := ok2.1.s2
        obtain ⟨sn, hsn⟩ : ∃ x, st2.seen = x := ⟨_, rfl⟩
        obtain ⟨lf, hlf⟩ : ∃ x, st2.n - st2.seen = x := ⟨_, rfl⟩
        have hsub : n - lf = sn := by omega
        have bl1 : 0 ≤ lf := by omega
        have bl2 : lf ≤ 1024 := by omega
        have bn1 : 0 ≤ sn := by omega
        have bn2 : sn ≤ 1024 := by omega
        have usn : IntKind.i64.wrap sn = sn := w64 (by omega) (by omega)
        obtain ⟨vl, hvl⟩ : ∃ x, st2.val = x := ⟨_, rfl⟩
        obtain ⟨bs, hbs⟩ : ∃ x, st2.best = x := ⟨_, rfl⟩
        obtain ⟨pv, hpv⟩ : ∃ x, st2.pr = x := ⟨_, rfl⟩
        obtain ⟨cf, hcf⟩ : ∃ x, (gokR ng ra rb && Mt.conf st2 ⟨ng, val ra, val rb⟩) = x := ⟨_, rfl⟩
        have CE : Hid (∀ w', Stp w3 w.heap.size (w.heap.size + 1) H w5.heap.size st2 n mg u ng (.slice p1 l1 k1) (.slice p2 l2 k2) (.slice (some ⟨bb, off, none⟩) len c0) ra rb l w' → w'.cell? ⟨w.heap.size, 0, none⟩ = some (.int .i64 n) ∧ w'.cell? ⟨w.heap.size + 1, 0, none⟩ = some (.bool ng) ∧ w'.cell? ⟨w.heap.size + 1, 1, none⟩ = some (.slice p1 l1 k1) ∧ w'.cell? ⟨w.heap.size + 1, 2, none⟩ = some (.slice p2 l2 k2) ∧ w'.cell? ⟨w5.heap.size, 3, none⟩ = some (.int .i64 lf) ∧ w'.cell? ⟨w5.heap.size, 5, none⟩ = some (.int .i64 vl) ∧ w'.cell? ⟨w5.heap.size, 6, none⟩ = some (.int .i64 bs) ∧ w'.cell? ⟨w5.heap.size, 7, none⟩ = some (.bool pv)) := Lib.hid (fun w' h => by
          have := h.cells
          rw [hlf, hvl, hbs, hpv] at this
          exact this)
        have SE : Hid (∀ w', Stp w3 w.heap.size (w.heap.size + 1) H w5.heap.size st2 n mg u ng (.slice p1 l1 k1) (.slice p2 l2 k2) (.slice (some ⟨bb, off, none⟩) len c0) ra rb l w' → Calls Try.prog 23 #[.pointer (some ⟨H, 0, none⟩)] w' fun e w'' => e = .returned (.int .i64 sn) ∧ w' = w'') := Lib.hid (fun w' h => by
          rw [← hsn]; exact seen_c h.m)
        have VL : Hid (∀ w', Stp w3 w.heap.size (w.heap.size + 1) H w5.heap.size st2 n mg u ng (.slice p1 l1 k1) (.slice p2 l2 k2) (.slice (some ⟨bb, off, none⟩) len c0) ra rb l w' → Calls Try.prog 17 #[.pointer (some ⟨H, 0, none⟩)] w' fun e w'' => e = .returned (.int .i64 vl) ∧ w' = w'') := Lib.hid (fun w' h => by
          rw [← hvl]; exact value_c h.m)
        have BE : Hid (∀ w', Stp w3 w.heap.size (w.heap.size + 1) H w5.heap.size st2 n mg u ng (.slice p1 l1 k1) (.slice p2 l2 k2) (.slice (some ⟨bb, off, none⟩) len c0) ra rb l w' → Calls Try.prog 24 #[.pointer (some ⟨H, 0, none⟩)] w' fun e w'' => e = .returned (.int .i64 bs) ∧ w' = w'') := Lib.hid (fun w' h => by
          rw [← hbs]; exact best_c h.m)
        have PV : Hid (∀ w', Stp w3 w.heap.size (w.heap.size + 1) H w5.heap.size st2 n mg u ng (.slice p1 l1 k1) (.slice p2 l2 k2) (.slice (some ⟨bb, off, none⟩) len c0) ra rb l w' → Calls Try.prog 13 #[.pointer (some ⟨H, 0, none⟩)] w' fun e w'' => e = .returned (.bool pv) ∧ w' = w'') := Lib.hid (fun w' h => by
          rw [← hpv]; exact proven_c h.m)
        have CF : Hid (∀ w', Stp w3 w.heap.size (w.heap.size + 1) H w5.heap.size st2 n mg u ng (.slice p1 l1 k1) (.slice p2 l2 k2) (.slice (some ⟨bb, off, none⟩) len c0) ra rb l w' → Calls Try.prog 14 #[.pointer (some ⟨H, 0, none⟩), .agg #[.bool ng, .slice p1 l1 k1, .slice p2 l2 k2]] w' fun e w'' => e = .returned (.bool cf) ∧ Stp w3 w.heap.size (w.heap.size + 1) H w5.heap.size st2 n mg u ng (.slice p1 l1 k1) (.slice p2 l2 k2) (.slice (some ⟨bb, off, none⟩) len c0) ra rb l w'') := Lib.hid (fun w' h => by
          refine (conf_all h.m h.ok h.rl HA.out HB.out).mono ?_
          rintro e w'' ⟨rfl, hb⟩
          exact ⟨by rw [hcf], h.keep hb⟩)
        have RC : Hid (∀ w', Stp w3 w.heap.size (w.heap.size + 1) H w5.heap.size st2 n mg u ng (.slice p1 l1 k1) (.slice p2 l2 k2) (.slice (some ⟨bb, off, none⟩) len c0) ra rb l w' → Calls Try.prog 25 #[.pointer (some ⟨w5.heap.size, 0, none⟩), .agg #[.bool ng, .slice p1 l1 k1, .slice p2 l2 k2]] w' fun e w'' => e = .returned (.bool cf) ∧ Stp w3 w.heap.size (w.heap.size + 1) H w5.heap.size st2 n mg u ng (.slice p1 l1 k1) (.slice p2 l2 k2) (.slice (some ⟨bb, off, none⟩) len c0) ra rb l w'') := Lib.hid (fun w' h => by
          refine (rconf_all h.r h.ok h.rl HA.out HB.out).mono ?_
          rintro e w'' ⟨rfl, hb⟩
          exact ⟨by rw [hcf], h.keep hb⟩)
        clear ho hcd hst2 ok2 hn2 bs1 bs2 hsn hlf hvl hbs hpv hcf
        go_wp2_with (first
          | (go_at_call 12; ((with_reducible refine (ST.out).mono ?_); rintro e w6 ⟨rfl, hm6, hk6, hb6⟩; have hm6 := Lib.hid hm6; have hr6 : Hid (RMeterAt w6 w5.heap.size st) := Lib.hid (hk6 _ _ (Ne.symm hL.out.ne) hL.out.r)))
          | (go_at_call 22; ((with_reducible refine (RS.out _ hr6.out).mono ?_); rintro e w7 ⟨rfl, hm7, hk7, hb7⟩; have L7 := Lib.hid (AF2.out _ _ hm6.out hb6 hm7 hk7 hb7))))
        have LD := Lib.hid (L7.out.keep (Below.refl _ _).drew)
        go_region_held3 (fun w' => w'.cell? ⟨w.heap.size, 0, none⟩ = some (.int .i64 n) ∧ w'.cell? ⟨w.heap.size + 1, 0, none⟩ = some (.bool ng) ∧ w'.cell? ⟨w.heap.size + 1, 1, none⟩ = some (.slice p1 l1 k1) ∧ w'.cell? ⟨w.heap.size + 1, 2, none⟩ = some (.slice p2 l2 k2) ∧ w'.cell? ⟨w5.heap.size, 3, none⟩ = some (.int .i64 lf) ∧ w'.cell? ⟨w5.heap.size, 5, none⟩ = some (.int .i64 vl) ∧ w'.cell? ⟨w5.heap.size, 6, none⟩ = some (.int .i64 bs) ∧ w'.cell? ⟨w5.heap.size, 7, none⟩ = some (.bool pv))
          (first | exact CE.out _ LD.out | exact CE.out _ L8.out | exact CE.out _ L9.out)
          (first
            | (go_at_call 23; ((with_reducible refine (SE.out _ LD.out).mono ?_); rintro e w8 ⟨rfl, rfl⟩))
            | (go_at_call 17; ((with_reducible refine (VL.out _ LD.out).mono ?_); rintro e w8 ⟨rfl, rfl⟩))
            | (go_at_call 24; ((with_reducible refine (BE.out _ LD.out).mono ?_); rintro e w8 ⟨rfl, rfl⟩))
            | (go_at_call 13; ((with_reducible refine (PV.out _ LD.out).mono ?_); rintro e w8 ⟨rfl, rfl⟩))
            | (go_at_call 14; ((with_reducible refine (CF.out _ LD.out).mono ?_); rintro e w8 ⟨rfl, hL8⟩; have L8 := Lib.hid hL8))
            | (go_at_call 25; ((with_reducible refine (RC.out _ L8.out).mono ?_); rintro e w9 ⟨rfl, hL9⟩; have L9 := Lib.hid hL9)))
        all_goals
          go_wp2_with fail
          go_roundw
          case rel => exact ⟨k + 1, st2, by omega, by omega, by go_num, L9⟩
          case measure => simp [intOf] <;> omega
      · have LB := hL.out.below
        by_cases h1 : k < len
        · have h1' : (k : Int) < (len : Int) := by omega
          have h2' : ¬ (k : Int) < 40 := by omega
          go_wp2_with (go_at_call 15; ((with_reducible refine (awake_c _).mono ?_); rintro e w8 ⟨rfl, hb8⟩; have hB8 := bel2' (bel2' hB3 LB) hb8))
          go_ret
          exact ⟨rfl, hB8⟩
        · have h1' : ¬ (k : Int) < (len : Int) := by omega
          go_wp2_with (go_at_call 15; ((with_reducible refine (awake_c _).mono ?_); rintro e w8 ⟨rfl, hb8⟩; have hB8 := bel2' (bel2' hB3 LB) hb8))
          go_ret
          exact ⟨rfl, hB8⟩

end Go.Proofs.Ytlhkjkhbgebgiaa
