/- Walk of MartingaleSteps, made lawful (not raw). -/
import Derived.Test.YtlhkjkhbgebgiaaS9
import Derived.Deep.RegionHeld3
namespace Go.Proofs.Ytlhkjkhbgebgiaa
open Go.RowKit Go.Proofs.Kit Go.Proofs.Nums

theorem Blk.t0 {b : Nat} {x0 x1 x2 : Value} {w : World} (h : Blk b #[x0, x1, x2] w) (v : Value) : Blk b #[v, x1, x2] (w.setCell ⟨b, 0, none⟩ v) := h.put1 (o := 0) (by simp) v
theorem Blk.t1 {b : Nat} {x0 x1 x2 : Value} {w : World} (h : Blk b #[x0, x1, x2] w) (v : Value) : Blk b #[x0, v, x2] (w.setCell ⟨b, 1, none⟩ v) := h.put1 (o := 1) (by simp) v
theorem Blk.t2 {b : Nat} {x0 x1 x2 : Value} {w : World} (h : Blk b #[x0, x1, x2] w) (v : Value) : Blk b #[x0, x1, v] (w.setCell ⟨b, 2, none⟩ v) := h.put1 (o := 2) (by simp) v
theorem Blk.other {b b' : Nat} {cs : Array Value} {w : World} (h : Blk b cs w) (hne : b ≠ b') (o : Nat) (v : Value) : Blk b cs (w.setCell ⟨b', o, none⟩ v) :=
  h.off (Below.heap_setCell w ⟨b', o, none⟩ v b hne) (by rw [World.size_setCell]; exact Nat.le_refl _)
/-- Orders that come to one end are one goal. -/
theorem one_goal {P G : Prop} (r : Hid P → G) (t : P) : G := r (Lib.hid t)
/-- The risk limit is stored in its box. -/
theorem made_store {w0 w : World} {T K : Nat} {n1 m1 u1 x y z va vb v : Value} {q : Q} {qs : Bool} {l : List Int} (hw : Below w0.heap.size w0 w) (hK : w0.heap.size ≤ K) (hne : T ≠ K) (hk : Blk K #[x, y, z] w) (hx : ∀ t, x ≠ Value.int .u32 t) (hy : ∀ t, y ≠ Value.int .u32 t) (hz : ∀ t, z ≠ Value.int .u32 t) (ht : Blk T #[n1, m1, u1] w) (hv : IntsAt w0 v l) (hq : RatN w (.agg #[.bool qs, va, vb]) q 2) (hqs : q.neg = qs) :
    Blk T #[n1, m1, u1] (((w.setCell ⟨K, 0, none⟩ (.bool qs)).setCell ⟨K, 1, none⟩ va).setCell ⟨K, 2, none⟩ vb) ∧ Blk K #[.bool qs, va, vb] (((w.setCell ⟨K, 0, none⟩ (.bool qs)).setCell ⟨K, 1, none⟩ va).setCell ⟨K, 2, none⟩ vb) ∧ RatL (((w.setCell ⟨K, 0, none⟩ (.bool qs)).setCell ⟨K, 1, none⟩ va).setCell ⟨K, 2, none⟩ vb) (.agg #[.bool qs, va, vb]) qs (limbs q.n) (limbs q.d) ∧ Below w0.heap.size w0 (((w.setCell ⟨K, 0, none⟩ (.bool qs)).setCell ⟨K, 1, none⟩ va).setCell ⟨K, 2, none⟩ vb) ∧ IntsAt (((w.setCell ⟨K, 0, none⟩ (.bool qs)).setCell ⟨K, 1, none⟩ va).setCell ⟨K, 2, none⟩ vb) v l ∧ (limbs q.n).length ≤ 4 ∧ (limbs q.d).length ≤ 4 := by
  have hl := hq.lens
  obtain ⟨vn, vd, ev, hn, hd⟩ := hq
  simp only [Value.agg.injEq, Array.mk.injEq, List.cons.injEq, and_true] at ev
  obtain ⟨-, rfl, rfl⟩ := ev
  subst hqs
  have g := retN hw hK hk hx hy hz hn hd
  exact ⟨((ht.other hne 0 _).other hne 1 _).other hne 2 _, ((hk.t0 _).t1 _).t2 _, g.1.l, g.2, hv.keep g.2, Nat.le_trans hl.1 (by omega), Nat.le_trans hl.2 (by omega)⟩

set_option maxRecDepth 100000 in
set_option maxHeartbeats 16000000 in
theorem steps_made {w : World} (n mg u : Int) (v : Value) (l : List Int) (hv : IntsAt w v l) (rv : Value) (ng : Bool) (ra rb : List Nat) (hr : RatL w rv ng ra rb) (ha : ra.length ≤ 4) (hb : rb.length ≤ 4) (a b : Int) :
    Calls Try.prog 7 #[.agg #[.int .i64 n, .int .i64 mg, .int .i64 u], .bool false, v, rv, .int .i64 a, .int .i64 b] w fun e w' => e = .returned (.bool true) ∧ Below w.heap.size w w' := by
  have hr2 := hr
  obtain ⟨vn, vd, rfl, gn, gd⟩ := hr
  obtain ⟨p1, k1, rfl⟩ := gn.shape
  obtain ⟨p2, k2, rfl⟩ := gd.shape
  obtain ⟨p0, c0, rfl⟩ := hv.shape
  obtain ⟨l1, hl1⟩ : ∃ k, ra.length = k := ⟨_, rfl⟩
  obtain ⟨l2, hl2⟩ : ∃ k, rb.length = k := ⟨_, rfl⟩
  obtain ⟨len, hlen⟩ : ∃ k, l.length = k := ⟨_, rfl⟩
  have HLEN := Lib.hid hlen
  have HA := Lib.hid ha
  have HB := Lib.hid hb
  rw [hl1] at hr2 ha
  rw [hl2] at hr2 hb
  rw [hlen] at hv
  rw [hl1, hl2, hlen]
  have g1 : ¬ (4 : Int) < (l1 : Int) := by omega
  have g2 : ¬ (4 : Int) < (l2 : Int) := by omega
  have HV := Lib.hid hv
  obtain ⟨w2, hw2⟩ : ∃ x, (w.alloc (.cells #[.int .i64 n, .int .i64 mg, .int .i64 u] 24)) = x := ⟨_, rfl⟩
  have b2 : Below w.heap.size w w2 := by rw [← hw2]; exact (Below.refl _ _).alloc (Nat.le_refl _) _
  have t2 : Blk w.heap.size #[.int .i64 n, .int .i64 mg, .int .i64 u] w2 := by rw [← hw2]; exact Blk.new _ _ _
  have s2 : w2.heap.size = w.heap.size + 1 := by rw [← hw2]; simp
  obtain ⟨w3, hw3⟩ : ∃ x, (w2.alloc (.cells #[.bool ng, .slice p1 l1 k1, .slice p2 l2 k2] 30)) = x := ⟨_, rfl⟩
  have b3 : Below w2.heap.size w2 w3 := by rw [← hw3]; exact (Below.refl _ _).alloc (Nat.le_refl _) _
  have hB3 : Below w.heap.size w w3 := bel2' b2 b3
  have t3 := t2.keep b3
  have k3 : Blk (w.heap.size + 1) #[.bool ng, .slice p1 l1 k1, .slice p2 l2 k2] w3 := by rw [← hw3, ← s2]; exact Blk.new _ _ _
  have s3 : w3.heap.size = w.heap.size + 2 := by rw [← hw3]; simp [s2]
  have hv3 := hv.keep hB3
  have hr3 := hr2.keep hB3
  obtain ⟨m0, m1, m2⟩ := t3.three
  obtain ⟨n0, n1', n2'⟩ := k3.three
  have T3 := Lib.hid t3
  have K3 := Lib.hid k3
  have V3 := Lib.hid hv3
  have R3 := Lib.hid hr3
  have T3f := Lib.hid (And.intro (t3.2.2 0) (And.intro (t3.2.2 1) (t3.2.2 2)))
  have MD := Lib.hid (fun x k (h1 : (1 : Int) ≤ k) (h2 : k ≤ 1000000) w => mod_c x k h1 h2 w)
  obtain ⟨N, hN0, hN1, hN⟩ : ∃ N, 0 ≤ N ∧ N ≤ 29 ∧ N = n % 30 := ⟨_, by omega, by omega, rfl⟩
  have C30 : Hid (∀ w, Calls Try.prog 16 #[.int .i64 n, .int .i64 30] w fun e w' => e = .returned (.int .i64 N) ∧ w = w') := Lib.hid (fun w => by rw [hN]; exact MD.out n 30 (by omega) (by omega) w)
  obtain ⟨U, hU0, hU1, hU⟩ : ∃ U, 0 ≤ U ∧ U ≤ 4 ∧ U = u % 5 := ⟨_, by omega, by omega, rfl⟩
  have C5 : Hid (∀ w, Calls Try.prog 16 #[.int .i64 u, .int .i64 5] w fun e w' => e = .returned (.int .i64 U) ∧ w = w') := Lib.hid (fun w => by rw [hU]; exact MD.out u 5 (by omega) (by omega) w)
  obtain ⟨nn, hnn⟩ : ∃ x, 1 + N = x := ⟨_, rfl⟩
  obtain ⟨uu, huu⟩ : ∃ x, 2 + U = x := ⟨_, rfl⟩
  have a1 : 1 ≤ nn := by omega
  have a2 : nn ≤ 30 := by omega
  have a3 : 2 ≤ uu := by omega
  have a4 : uu ≤ 6 := by omega
  have unn : IntKind.i64.wrap nn = nn := w64 (by omega) (by omega)
  have uuu : IntKind.i64.wrap uu = uu := w64 (by omega) (by omega)
  have hp1 : nn * uu ≤ 30 * 6 := Int.mul_le_mul a2 a4 (by omega) (by omega)
  have hp0 : 1 * 2 ≤ nn * uu := Int.mul_le_mul a1 a3 (by omega) (by omega)
  obtain ⟨p, hp⟩ : ∃ x, nn * uu = x := ⟨_, rfl⟩
  rw [hp] at hp0 hp1
  have hmm1 := Int.emod_nonneg mg (show p ≠ 0 by omega)
  have hmm2 := Int.emod_lt_of_pos mg (show 0 < p by omega)
  obtain ⟨M, hM⟩ : ∃ x, mg % p = x := ⟨_, rfl⟩
  rw [hM] at hmm1 hmm2
  have CM : Hid (∀ w, Calls Try.prog 16 #[.int .i64 mg, .int .i64 p] w fun e w' => e = .returned (.int .i64 M) ∧ w = w') := Lib.hid (fun w => by rw [← hM]; exact MD.out mg p (by omega) (by omega) w)
  obtain ⟨mm, hmm⟩ : ∃ x, 1 + M = x := ⟨_, rfl⟩
  obtain ⟨E5, hE5⟩ : ∃ x, ((((w3.setCell ⟨w.heap.size, 0, none⟩ (.int .i64 nn)).setCell ⟨w.heap.size, 1, none⟩ (.int .i64 mg)).setCell ⟨w.heap.size, 2, none⟩ (.int .i64 uu)).setCell ⟨w.heap.size, 1, none⟩ (.int .i64 mm)).drew = x := ⟨_, rfl⟩
  have TE : Hid (Blk w.heap.size #[.int .i64 nn, .int .i64 mm, .int .i64 uu] E5) := Lib.hid (by rw [← hE5]; exact ((((T3.out.t0 _).t1 _).t2 _).t1 _).drew)
  have KE : Hid (Blk (w.heap.size + 1) #[.bool ng, .slice p1 l1 k1, .slice p2 l2 k2] E5) := Lib.hid (by rw [← hE5]; exact ((((K3.out.other (by omega) 0 _).other (by omega) 1 _).other (by omega) 2 _).other (by omega) 1 _).drew)
  have BE : Below w.heap.size w E5 := by rw [← hE5]; exact ((((hB3.setCell (Nat.le_refl _) _).setCell (Nat.le_refl _) _).setCell (Nat.le_refl _) _).setCell (Nat.le_refl _) _).drew
  obtain ⟨kk, dd, _, _, _, RC0⟩ := lrisk_c a b E5
  obtain ⟨q, hq⟩ : ∃ q, Q.mk' false kk dd = q := ⟨_, rfl⟩
  rw [hq] at RC0
  obtain ⟨qs, hqs⟩ : ∃ t, q.neg = t := ⟨_, rfl⟩
  have HQS := Lib.hid hqs
  have RC : Hid (Calls Try.prog 9 #[.int .i64 a, .int .i64 b] E5 fun e w' => ∃ p7 l7 k7 p8 l8 k8, e = .returned (.agg #[.bool qs, .slice p7 l7 k7, .slice p8 l8 k8]) ∧ RatN w' (.agg #[.bool qs, .slice p7 l7 k7, .slice p8 l8 k8]) q 2 ∧ Below E5.heap.size E5 w') := Lib.hid (by rw [← hqs]; exact RC0)
  have b1 : 1 ≤ mm := by omega
  have b2' : mm ≤ nn * uu := by rw [hp]; omega
  have NG : Hid (∀ w, Calls Try.prog 11 #[.agg #[.int .i64 nn, .int .i64 mm, .int .i64 uu]] w fun e w' => ∃ H, e = .returned (.tuple #[.pointer (some ⟨H, 0, none⟩), .int .i64 0]) ∧ MeterAt w' H (Mt.new nn mm uu) ∧ w.heap.size ≤ H ∧ Below w.heap.size w w') := Lib.hid (fun w => new_c a1 (by omega) a3 a4 b1 b2' w)
  have KN : Hid ((Mt.new nn mm uu).Ok) := Lib.hid (Mt.new_ok a1 (by omega) a3 a4 b1 b2')
  obtain ⟨rm, hrm⟩ : ∃ x, p - mm = x := ⟨_, rfl⟩
  have HRM : Hid (nn * uu - mm = rm) := Lib.hid (by rw [hp]; exact hrm)
  have RG : Hid (∀ w, Calls Try.prog 21 #[.agg #[.int .i64 nn, .int .i64 mm, .int .i64 uu]] w fun e w' => e = .returned (.tuple #[.agg #[.int .i64 nn, .int .i64 mm, .int .i64 uu, .int .i64 nn, .int .i64 rm, .int .i64 4294967296, .int .i64 4294967296, .bool false], .int .i64 0]) ∧ Below w.heap.size w w') := Lib.hid (fun w => by
    have := rnew_c a1 (by omega) a3 a4 b1 b2' w
    rw [HRM.out] at this
    exact this)
  obtain ⟨f0, f1, f2⟩ := T3f.out
  obtain ⟨i0, i1, i2⟩ := (Blk.free3 K3.out)
  clear MD hN hU hM t2 b2 b3 hr2 hv gn gd t3 k3 hv3 hr3 RC0 hq hqs b2' hrm
  go_enter Try.func7, Try.ntmps7
  go_wp2_with fail
  apply one_goal
  case r =>
    intro KEY
    go_region_with (first
      | (go_at_call 16; ((with_reducible refine (C30.out _).mono ?_); rintro e w9 ⟨rfl, rfl⟩))
      | (go_at_call 16; ((with_reducible refine (C5.out _).mono ?_); rintro e w9 ⟨rfl, rfl⟩)))
    all_goals exact KEY.out
  all_goals
    go_wp2_with (first
      | (go_at_call 16; ((with_reducible refine (CM.out _).mono ?_); rintro e w9 ⟨rfl, rfl⟩))
      | (go_at_call 9; ((with_reducible refine (RC.out).mono ?_); rintro e wy ⟨p7, l7, k7, p8, l8, k8, rfl, hq6, hb6⟩; have hBy := bel2' BE hb6; have K6 := Lib.hid (KE.out.keep hb6); obtain ⟨j0, j1, j2⟩ := K6.out.three; obtain ⟨i3, i4, i5⟩ := K6.out.free3; have NX := made_store hBy (Nat.le_succ _) (Nat.ne_of_lt (Nat.lt_succ_self _)) K6.out (by intro t h; cases h) (by intro t h; cases h) (by intro t h; cases h) (TE.out.keep hb6) HV.out hq6 HQS.out; obtain ⟨wz, hwz⟩ : ∃ x, (((wy.setCell ⟨w.heap.size + 1, 0, none⟩ (.bool qs)).setCell ⟨w.heap.size + 1, 1, none⟩ (.slice p7 l7 k7)).setCell ⟨w.heap.size + 1, 2, none⟩ (.slice p8 l8 k8)) = x := ⟨_, rfl⟩; rw [hwz] at NX; have Tz := Lib.hid NX.1; have Kz := Lib.hid NX.2.1; have Rz := Lib.hid NX.2.2.1; have hBz := NX.2.2.2.1; have Vz := Lib.hid NX.2.2.2.2.1; have HAz := Lib.hid NX.2.2.2.2.2.1; have HBz := Lib.hid NX.2.2.2.2.2.2; clear NX; obtain ⟨y0, y1, y2⟩ := Tz.out.three; obtain ⟨y3, y4, y5⟩ := Kz.out.three))
      | (go_at_call 11; ((with_reducible refine (NG.out _).mono ?_); rintro e w4 ⟨H, rfl, hm4, hH4, hb4⟩; have hm4 := Lib.hid hm4; have hB4 := bel2' hBz hb4; have hB34 := hb4; obtain ⟨q0, q1, q2⟩ := (Tz.out.keep hb4).three))
      | (go_at_call 21; ((with_reducible refine (RG.out _).mono ?_); rintro e w5 ⟨rfl, hb5⟩; have hm5 := Lib.hid (hm4.out.keep hb5); have hB35 := bel2' hB34 hb5; have hB5 := bel2' hB4 hb5)))
    have hlt5 := hm5.out.1
    have hs45 := hB35.size
    have L0 : Hid (Stp wz w.heap.size (w.heap.size + 1) H w5.heap.size (Mt.new nn mm uu) nn mm uu qs (.slice p7 l7 k7) (.slice p8 l8 k8) (.slice p0 len c0) (limbs q.n) (limbs q.d) l (w5.alloc (.cells #[.int .i64 nn, .int .i64 mm, .int .i64 uu, .int .i64 nn, .int .i64 rm, .int .i64 4294967296, .int .i64 4294967296, .bool false] 50))) := Lib.hid
      { m := hm5.out.keep ((Below.refl _ _).alloc (Nat.le_refl _) _)
        r := by
          have KE : Mt.new nn mm uu = ⟨nn, mm, uu, 0, rm, 4294967296, 4294967296, false⟩ := by unfold Mt.new; rw [HRM.out]
          rw [KE]
          exact RMeterAt.of (Blk.new w5 _ _) (Int.sub_zero nn)
        ok := KN.out
        n := rfl
        u := rfl
        below := hB35.alloc hs45 _
        hH := hH4
        hR := hs45
        ne := Nat.ne_of_lt hlt5
        t3 := Tz.out
        k3 := Kz.out
        rl3 := Rz.out
        o3 := Vz.out }
    clear m0 m1 m2 n0 n1' n2' q0 q1 q2 y0 y1 y2 y3 y4 y5 j0 j1 j2 i3 i4 i5 f0 f1 f2 i0 i1 i2 hE5 hwz
    go_loopw [17, 18] (fun iv _ wr => ∃ k : Nat, ∃ st : Mt, k ≤ len ∧ k ≤ 40 ∧ iv = .int .i64 k ∧ Hid (Stp wz w.heap.size (w.heap.size + 1) H w5.heap.size st nn mm uu qs (.slice p7 l7 k7) (.slice p8 l8 k8) (.slice p0 len c0) (limbs q.n) (limbs q.d) l wr)) (fun iv _ _ => len - (intOf iv).toNat)
    case atStart => exact ⟨0, Mt.new nn mm uu, by omega, by omega, rfl, L0⟩
    case round =>
      obtain ⟨k, st, hk, hk40, rfl, hL⟩ := hrel
      by_cases hlt : k < len ∧ k < 40
      · obtain ⟨h1, h2⟩ := hlt
        have h1' : (k : Int) < (len : Int) := by omega
        have h2' : (k : Int) < 40 := by omega
        obtain ⟨bb, off, hp0, hc1, hc2, hcell⟩ := hL.out.over.cellAt k (by rw [HLEN.out]; exact h1)
        subst hp0
        obtain ⟨o, ho⟩ : ∃ z, l.getD k 0 = z := ⟨_, rfl⟩
        rw [ho] at hcell
        obtain ⟨x1, hx1⟩ : ∃ x, 2 * uu = x := ⟨_, rfl⟩
        obtain ⟨x2, hx2⟩ : ∃ x, x1 + 3 = x := ⟨_, rfl⟩
        have ex1 : 4 ≤ x1 := by omega
        have ex2 : x1 ≤ 12 := by omega
        have ex3 : x2 ≤ 15 := by omega
        have ex4 : 7 ≤ x2 := by omega
        have z1 := Int.emod_nonneg o (show x2 ≠ 0 by omega)
        have z2 := Int.emod_lt_of_pos o (show 0 < x2 by omega)
        obtain ⟨r, hr⟩ : ∃ r, o % x2 = r := ⟨_, rfl⟩
        rw [hr] at z1 z2
        have CZ : Hid (∀ w, Calls Try.prog 16 #[.int .i64 o, .int .i64 x2] w fun e w' => e = .returned (.int .i64 r) ∧ w = w') := Lib.hid (fun w => by rw [← hr]; exact mod_c o x2 (by omega) (by omega) w)
        obtain ⟨s1, hs1⟩ : ∃ x, r - uu = x := ⟨_, rfl⟩
        obtain ⟨oo, hoo⟩ : ∃ x, s1 - 1 = x := ⟨_, rfl⟩
        have ux1 : IntKind.i64.wrap x1 = x1 := w64 (by omega) (by omega)
        have ux2 : IntKind.i64.wrap x2 = x2 := w64 (by omega) (by omega)
        have us1 : IntKind.i64.wrap s1 = s1 := w64 (by omega) (by omega)
        have uoo : IntKind.i64.wrap oo = oo := w64 (by omega) (by omega)
        have TU := Lib.hid ((hL.out.keep (Below.refl _ _).drew).t.2.1 2)
        clear ho hr
        go_wp2_with fail
        go_region_held3 (fun w' => w'.cell? ⟨w.heap.size, 2, none⟩ = some (.int .i64 uu))
          (exact TU.out)
          (first | (go_at_call 16; ((with_reducible refine (CZ.out _).mono ?_); rintro e w9 ⟨rfl, rfl⟩)))
        have hL := Lib.hid (hL.out.keep (Below.refl _ _).drew)
        have ST := Lib.hid (step_all oo hL.out.m hL.out.ok)
        have RS : Hid (∀ w', RMeterAt w' w5.heap.size st → Calls Try.prog 22 #[.pointer (some ⟨w5.heap.size, 0, none⟩), .int .i64 oo] w' fun e w'' => e = .returned (.int .i64 (st.code oo)) ∧ RMeterAt w'' w5.heap.size (st.after oo) ∧ (∀ b cs, b ≠ w5.heap.size → Blk b cs w' → Blk b cs w'') ∧ Below w5.heap.size w' w'') := Lib.hid (fun w' h => rstep_all oo h hL.out.ok)
        obtain ⟨cd, hcd⟩ : ∃ c, st.code oo = c := ⟨_, rfl⟩
        rw [hcd] at ST RS
        obtain ⟨st2, hst2⟩ : ∃ s, st.after oo = s := ⟨_, rfl⟩
        have ok2 := (Mt.after_ok hL.out.ok oo)
        have AF2 : Hid (∀ w1 w2, MeterAt w1 H st2 → Below H wr.drew w1 → RMeterAt w2 w5.heap.size st2 → (∀ b cs, b ≠ w5.heap.size → Blk b cs w1 → Blk b cs w2) → Below w5.heap.size w1 w2 → Stp wz w.heap.size (w.heap.size + 1) H w5.heap.size st2 nn mm uu qs (.slice p7 l7 k7) (.slice p8 l8 k8) (.slice (some ⟨bb, off, none⟩) len c0) (limbs q.n) (limbs q.d) l w2) := Lib.hid (fun w1 w2 h1 h2 h3 h4 h5 => by
          rw [← hst2] at h1 h3 ⊢
          exact hL.out.both h1 h2 h3 h4 h5)
        rw [hst2] at ST RS ok2
        have hn2 : st2.n = nn := ok2.2.1.trans hL.out.n
        have bs1 := ok2.1.s1
        have bs2 := ok2.1.s2
        obtain ⟨sn, hsn⟩ : ∃ x, st2.seen = x := ⟨_, rfl⟩
        obtain ⟨lf, hlf⟩ : ∃ x, st2.n - st2.seen = x := ⟨_, rfl⟩
        have hsub : nn - lf = sn := by omega
        have bl1 : 0 ≤ lf := by omega
        have bl2 : lf ≤ 1024 := by omega
        have bn1 : 0 ≤ sn := by omega
        have bn2 : sn ≤ 1024 := by omega
        have usn : IntKind.i64.wrap sn = sn := w64 (by omega) (by omega)
        obtain ⟨vl, hvl⟩ : ∃ x, st2.val = x := ⟨_, rfl⟩
        obtain ⟨bs, hbs⟩ : ∃ x, st2.best = x := ⟨_, rfl⟩
        obtain ⟨pv, hpv⟩ : ∃ x, st2.pr = x := ⟨_, rfl⟩
        obtain ⟨cf, hcf⟩ : ∃ x, (gokR qs (limbs q.n) (limbs q.d) && Mt.conf st2 ⟨qs, val (limbs q.n), val (limbs q.d)⟩) = x := ⟨_, rfl⟩
        have CE : Hid (∀ w', Stp wz w.heap.size (w.heap.size + 1) H w5.heap.size st2 nn mm uu qs (.slice p7 l7 k7) (.slice p8 l8 k8) (.slice (some ⟨bb, off, none⟩) len c0) (limbs q.n) (limbs q.d) l w' → w'.cell? ⟨w.heap.size, 0, none⟩ = some (.int .i64 nn) ∧ w'.cell? ⟨w.heap.size + 1, 0, none⟩ = some (.bool qs) ∧ w'.cell? ⟨w.heap.size + 1, 1, none⟩ = some (.slice p7 l7 k7) ∧ w'.cell? ⟨w.heap.size + 1, 2, none⟩ = some (.slice p8 l8 k8) ∧ w'.cell? ⟨w5.heap.size, 3, none⟩ = some (.int .i64 lf) ∧ w'.cell? ⟨w5.heap.size, 5, none⟩ = some (.int .i64 vl) ∧ w'.cell? ⟨w5.heap.size, 6, none⟩ = some (.int .i64 bs) ∧ w'.cell? ⟨w5.heap.size, 7, none⟩ = some (.bool pv)) := Lib.hid (fun w' h => by
          have := h.cells
          rw [hlf, hvl, hbs, hpv] at this
          exact this)
        have SE : Hid (∀ w', Stp wz w.heap.size (w.heap.size + 1) H w5.heap.size st2 nn mm uu qs (.slice p7 l7 k7) (.slice p8 l8 k8) (.slice (some ⟨bb, off, none⟩) len c0) (limbs q.n) (limbs q.d) l w' → Calls Try.prog 23 #[.pointer (some ⟨H, 0, none⟩)] w' fun e w'' => e = .returned (.int .i64 sn) ∧ w' = w'') := Lib.hid (fun w' h => by
          rw [← hsn]; exact seen_c h.m)
        have VL : Hid (∀ w', Stp wz w.heap.size (w.heap.size + 1) H w5.heap.size st2 nn mm uu qs (.slice p7 l7 k7) (.slice p8 l8 k8) (.slice (some ⟨bb, off, none⟩) len c0) (limbs q.n) (limbs q.d) l w' → Calls Try.prog 17 #[.pointer (some ⟨H, 0, none⟩)] w' fun e w'' => e = .returned (.int .i64 vl) ∧ w' = w'') := Lib.hid (fun w' h => by
          rw [← hvl]; exact value_c h.m)
        have BE : Hid (∀ w', Stp wz w.heap.size (w.heap.size + 1) H w5.heap.size st2 nn mm uu qs (.slice p7 l7 k7) (.slice p8 l8 k8) (.slice (some ⟨bb, off, none⟩) len c0) (limbs q.n) (limbs q.d) l w' → Calls Try.prog 24 #[.pointer (some ⟨H, 0, none⟩)] w' fun e w'' => e = .returned (.int .i64 bs) ∧ w' = w'') := Lib.hid (fun w' h => by
          rw [← hbs]; exact best_c h.m)
        have PV : Hid (∀ w', Stp wz w.heap.size (w.heap.size + 1) H w5.heap.size st2 nn mm uu qs (.slice p7 l7 k7) (.slice p8 l8 k8) (.slice (some ⟨bb, off, none⟩) len c0) (limbs q.n) (limbs q.d) l w' → Calls Try.prog 13 #[.pointer (some ⟨H, 0, none⟩)] w' fun e w'' => e = .returned (.bool pv) ∧ w' = w'') := Lib.hid (fun w' h => by
          rw [← hpv]; exact proven_c h.m)
        have CF : Hid (∀ w', Stp wz w.heap.size (w.heap.size + 1) H w5.heap.size st2 nn mm uu qs (.slice p7 l7 k7) (.slice p8 l8 k8) (.slice (some ⟨bb, off, none⟩) len c0) (limbs q.n) (limbs q.d) l w' → Calls Try.prog 14 #[.pointer (some ⟨H, 0, none⟩), .agg #[.bool qs, .slice p7 l7 k7, .slice p8 l8 k8]] w' fun e w'' => e = .returned (.bool cf) ∧ Stp wz w.heap.size (w.heap.size + 1) H w5.heap.size st2 nn mm uu qs (.slice p7 l7 k7) (.slice p8 l8 k8) (.slice (some ⟨bb, off, none⟩) len c0) (limbs q.n) (limbs q.d) l w'') := Lib.hid (fun w' h => by
          refine (conf_all h.m h.ok h.rl HAz.out HBz.out).mono ?_
          rintro e w'' ⟨rfl, hb⟩
          exact ⟨by rw [hcf], h.keep hb⟩)
        have RC : Hid (∀ w', Stp wz w.heap.size (w.heap.size + 1) H w5.heap.size st2 nn mm uu qs (.slice p7 l7 k7) (.slice p8 l8 k8) (.slice (some ⟨bb, off, none⟩) len c0) (limbs q.n) (limbs q.d) l w' → Calls Try.prog 25 #[.pointer (some ⟨w5.heap.size, 0, none⟩), .agg #[.bool qs, .slice p7 l7 k7, .slice p8 l8 k8]] w' fun e w'' => e = .returned (.bool cf) ∧ Stp wz w.heap.size (w.heap.size + 1) H w5.heap.size st2 nn mm uu qs (.slice p7 l7 k7) (.slice p8 l8 k8) (.slice (some ⟨bb, off, none⟩) len c0) (limbs q.n) (limbs q.d) l w'') := Lib.hid (fun w' h => by
          refine (rconf_all h.r h.ok h.rl HAz.out HBz.out).mono ?_
          rintro e w'' ⟨rfl, hb⟩
          exact ⟨by rw [hcf], h.keep hb⟩)
        clear hcd hst2 ok2 hn2 bs1 bs2 hsn hlf hvl hbs hpv hcf
        go_wp2_with (first
          | (go_at_call 12; ((with_reducible refine (ST.out).mono ?_); rintro e w6 ⟨rfl, hm6, hk6, hb6⟩; have hm6 := Lib.hid hm6; have hr6 : Hid (RMeterAt w6 w5.heap.size st) := Lib.hid (hk6 _ _ (Ne.symm hL.out.ne) hL.out.r)))
          | (go_at_call 22; ((with_reducible refine (RS.out _ hr6.out).mono ?_); rintro e w7 ⟨rfl, hm7, hk7, hb7⟩; have L7 := Lib.hid (AF2.out _ _ hm6.out hb6 hm7 hk7 hb7))))
        have LD := Lib.hid (L7.out.keep (Below.refl _ _).drew)
        go_region_held3 (fun w' => w'.cell? ⟨w.heap.size, 0, none⟩ = some (.int .i64 nn) ∧ w'.cell? ⟨w.heap.size + 1, 0, none⟩ = some (.bool qs) ∧ w'.cell? ⟨w.heap.size + 1, 1, none⟩ = some (.slice p7 l7 k7) ∧ w'.cell? ⟨w.heap.size + 1, 2, none⟩ = some (.slice p8 l8 k8) ∧ w'.cell? ⟨w5.heap.size, 3, none⟩ = some (.int .i64 lf) ∧ w'.cell? ⟨w5.heap.size, 5, none⟩ = some (.int .i64 vl) ∧ w'.cell? ⟨w5.heap.size, 6, none⟩ = some (.int .i64 bs) ∧ w'.cell? ⟨w5.heap.size, 7, none⟩ = some (.bool pv))
          (first | exact CE.out _ LD.out | exact CE.out _ L8.out | exact CE.out _ L9.out)
          (first
            | (go_at_call 23; ((with_reducible refine (SE.out _ LD.out).mono ?_); rintro e w8 ⟨rfl, rfl⟩))
            | (go_at_call 17; ((with_reducible refine (VL.out _ LD.out).mono ?_); rintro e w8 ⟨rfl, rfl⟩))
            | (go_at_call 24; ((with_reducible refine (BE.out _ LD.out).mono ?_); rintro e w8 ⟨rfl, rfl⟩))
            | (go_at_call 13; ((with_reducible refine (PV.out _ LD.out).mono ?_); rintro e w8 ⟨rfl, rfl⟩))
            | (go_at_call 14; ((with_reducible refine (CF.out _ LD.out).mono ?_); rintro e w8 ⟨rfl, hL8⟩; have L8 := Lib.hid hL8))
            | (go_at_call 25; ((with_reducible refine (RC.out _ L8.out).mono ?_); rintro e w9 ⟨rfl, hL9⟩; have L9 := Lib.hid hL9)))
        all_goals
          go_wp2_with fail
          go_roundw
          case rel => exact ⟨k + 1, st2, by omega, by omega, by go_num, L9⟩
          case measure => simp [intOf] <;> omega
      · have LB := hL.out.below
        by_cases h1 : k < len
        · have h1' : (k : Int) < (len : Int) := by omega
          have h2' : ¬ (k : Int) < 40 := by omega
          go_wp2_with (go_at_call 15; ((with_reducible refine (awake_c _).mono ?_); rintro e w8 ⟨rfl, hb8⟩; have hB8 := bel2' (bel2' hBz LB) hb8))
          go_ret
          exact ⟨rfl, hB8⟩
        · have h1' : ¬ (k : Int) < (len : Int) := by omega
          go_wp2_with (go_at_call 15; ((with_reducible refine (awake_c _).mono ?_); rintro e w8 ⟨rfl, hb8⟩; have hB8 := bel2' (bel2' hBz LB) hb8))
          go_ret
          exact ⟨rfl, hB8⟩

end Go.Proofs.Ytlhkjkhbgebgiaa
