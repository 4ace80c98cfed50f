/- Contracts of the meter: New, Step, Seen, Value, Best, Proven. -/
import Derived.Test.YtlhkjkhbgebgiaaV1
import Derived.Test.YtlhkjkhbgebgiaaGG
import Derived.Test.YtlhkjkhbgebgiaaM4
namespace Go.Proofs.Ytlhkjkhbgebgiaa
open Go.RowKit Go.Proofs.Kit Go.Proofs.Nums

theorem Blk.newAt {b : Nat} (w : World) (cs : Array Value) (T : TypeId) (h : b = w.heap.size) : Blk b cs (w.alloc (.cells cs T)) := by subst h; exact Blk.new w cs T

set_option maxRecDepth 100000 in
set_option maxHeartbeats 2000000 in
theorem new_c {n mg u : Int} (h1 : 1 ≤ n) (h2 : n ≤ 1024) (h3 : 2 ≤ u) (h4 : u ≤ 6) (h5 : 1 ≤ mg) (h6 : mg ≤ n * u) (w : World) :
    Calls Try.prog 11 #[.agg #[.int .i64 n, .int .i64 mg, .int .i64 u]] w fun e w' => ∃ H, e = .returned (.tuple #[.pointer (some ⟨H, 0, none⟩), .int .i64 0]) ∧ MeterAt w' H (Mt.new n mg u) ∧ w.heap.size ≤ H ∧ Below w.heap.size w w' := by
  have hb : n * u ≤ 1024 * 6 := Int.mul_le_mul h2 h4 (by omega) (by omega)
  have HM : Hid (Mt.new n mg u = ⟨n, mg, u, 0, n * u - mg, 4294967296, 4294967296, false⟩) := Lib.hid rfl
  rw [HM.out]
  obtain ⟨p, hp⟩ : ∃ p, n * u = p := ⟨_, rfl⟩
  rw [hp] at h6 hb ⊢
  obtain ⟨m0, m1, m2⟩ := (Blk.new w #[.int .i64 n, .int .i64 mg, .int .i64 u] 24).three
  have g1 : ¬ n < 1 := by omega
  have g2 : ¬ 1024 < n := by omega
  have g3 : ¬ u < 2 := by omega
  have g4 : ¬ 6 < u := by omega
  have g5 : ¬ mg < 1 := by omega
  have g6 : ¬ p < mg := by omega
  clear HM
  go_enter Try.func11, Try.ntmps11
  go_wp2_with fail
  go_ret2
  exact ⟨_, rfl, Blk.newAt _ _ _ (by simp), by omega, ((Below.refl _ _).alloc (Nat.le_refl _) _).alloc (by simp) _⟩

set_option maxHeartbeats 1000000 in
theorem value_c {H : Nat} {s : Mt} {w : World} (hm : MeterAt w H s) : Calls Try.prog 17 #[.pointer (some ⟨H, 0, none⟩)] w fun e w' => e = .returned (.int .i64 s.val) ∧ w = w' := by
  obtain ⟨c0, c1, c2, c3, c4, c5, c6, c7⟩ := hm.eight
  go_enter Try.func17, Try.ntmps17
  go_wp2_with fail
  go_ret
  exact ⟨rfl, rfl⟩
set_option maxHeartbeats 1000000 in
theorem seen_c {H : Nat} {s : Mt} {w : World} (hm : MeterAt w H s) : Calls Try.prog 23 #[.pointer (some ⟨H, 0, none⟩)] w fun e w' => e = .returned (.int .i64 s.seen) ∧ w = w' := by
  obtain ⟨c0, c1, c2, c3, c4, c5, c6, c7⟩ := hm.eight
  go_enter Try.func23, Try.ntmps23
  go_wp2_with fail
  go_ret
  exact ⟨rfl, rfl⟩
set_option maxHeartbeats 1000000 in
theorem best_c {H : Nat} {s : Mt} {w : World} (hm : MeterAt w H s) : Calls Try.prog 24 #[.pointer (some ⟨H, 0, none⟩)] w fun e w' => e = .returned (.int .i64 s.best) ∧ w = w' := by
  obtain ⟨c0, c1, c2, c3, c4, c5, c6, c7⟩ := hm.eight
  go_enter Try.func24, Try.ntmps24
  go_wp2_with fail
  go_ret
  exact ⟨rfl, rfl⟩
set_option maxHeartbeats 1000000 in
theorem proven_c {H : Nat} {s : Mt} {w : World} (hm : MeterAt w H s) : Calls Try.prog 13 #[.pointer (some ⟨H, 0, none⟩)] w fun e w' => e = .returned (.bool s.pr) ∧ w = w' := by
  obtain ⟨c0, c1, c2, c3, c4, c5, c6, c7⟩ := hm.eight
  go_enter Try.func13, Try.ntmps13
  go_wp2_with fail
  go_ret
  exact ⟨rfl, rfl⟩

set_option maxRecDepth 100000 in
set_option maxHeartbeats 8000000 in
theorem step_c {H : Nat} {s : Mt} {o : Int} {w : World} (hm : MeterAt w H s) (hs : s.Ok) (h1 : -s.u ≤ o) (h2 : o ≤ s.u) (h3 : s.seen < s.n) :
    Calls Try.prog 12 #[.pointer (some ⟨H, 0, none⟩), .int .i64 o] w fun e w' => e = .returned (.int .i64 0) ∧ MeterAt w' H (s.next o) ∧ OnlyH H w w' := by
  have hmid := Mt.mid hs h1 h2
  obtain ⟨a1, a2, a3, a4, a5, a6, a7, a8, a9, a10, a11, a12, a13⟩ := hs
  obtain ⟨n, mg, u, seen, room, val, best, pr⟩ := s
  simp only at a1 a2 a3 a4 a5 a6 a7 a8 a9 a10 a11 a12 a13 h1 h2 h3 hmid
  obtain ⟨c0, c1, c2, c3, c4, c5, c6, c7⟩ := hm.eight
  obtain ⟨f3, f4, f5, f6, f7⟩ := hm.free8
  have HM := Lib.hid hm
  have HN : Hid ((Mt.mk n mg u seen room val best pr).next o = ⟨n, mg, u, seen + 1, room - (u - o), (Mt.mk n mg u seen room val best pr).newVal o, (Mt.mk n mg u seen room val best pr).newBest o, decide (room - (u - o) < 0)⟩) := Lib.hid rfl
  have HV : Hid ((Mt.mk n mg u seen room val best pr).newVal o = if pr = true ∨ room = 0 then val else min 17592186044416 (val * (room + 9 * (u - o) * (n - seen)) / (10 * room))) := Lib.hid rfl
  have HB : Hid ((Mt.mk n mg u seen room val best pr).newBest o = if pr = true ∨ room = 0 then best else max best ((Mt.mk n mg u seen room val best pr).newVal o)) := Lib.hid rfl
  obtain ⟨sc, hsc⟩ : ∃ sc, u - o = sc := ⟨_, rfl⟩
  obtain ⟨rm, hrm⟩ : ∃ rm, room - sc = rm := ⟨_, rfl⟩
  obtain ⟨nx, hnx⟩ : ∃ nx, (Mt.mk n mg u seen room val best pr).next o = nx := ⟨_, rfl⟩
  have n1 : ¬ seen = n := by omega
  have n2 : (seen == n) = false := by rw [beq_eq_false_iff_ne]; omega
  have n3 : ¬ o < -u := by omega
  have n4 : ¬ u < o := by omega
  have e1 : 0 ≤ sc := by omega
  have e2 : sc ≤ 12 := by omega
  clear hm
  cases pr
  · have hr0 : ¬ room < 0 := of_decide_eq_false a13.symm
    by_cases h0 : room = 0
    · have hz : (room == 0) = true := by rw [beq_iff_eq]; exact h0
      have HNX : Hid (nx = ⟨n, mg, u, seen + 1, rm, val, best, decide (rm < 0)⟩) := Lib.hid (by
        rw [← hnx, HN.out, HB.out, HV.out, if_pos (.inr h0), if_pos (.inr h0), hsc, hrm])
      rw [hnx, HNX.out]
      rcases Int.lt_or_le 0 sc with hp | hp
      · have hd : decide ((0 : Int) < sc) = true := decide_eq_true hp
        have hd2 : decide (rm < (0 : Int)) = true := decide_eq_true (by omega)
        rw [hd2]
        clear HN HV HB HNX hnx hmid h0 a13
        go_enter Try.func12, Try.ntmps12
        go_wp2_with fail
        all_goals go_region
        all_goals go_wp2_with fail
        all_goals
          go_ret
          have T := ((((HM.out.p7 (.bool true)).p4 (.int .i64 rm)).p3 (.int .i64 (seen + 1))).p7 (.bool true))
          have O := (((((OnlyH.refl H w).set 7 (.bool true)).set 4 (.int .i64 rm)).set 3 (.int .i64 (seen + 1))).set 7 (.bool true))
          exact ⟨rfl, T.drew, O.drew⟩
      · have hd : decide ((0 : Int) < sc) = false := decide_eq_false (by omega)
        have hd2 : decide (rm < (0 : Int)) = false := decide_eq_false (by omega)
        rw [hd2]
        clear HN HV HB HNX hnx hmid h0 a13
        go_enter Try.func12, Try.ntmps12
        go_wp2_with fail
        all_goals go_region
        all_goals go_wp2_with fail
        all_goals
          go_ret
          have T := ((((HM.out.p7 (.bool false)).p4 (.int .i64 rm)).p3 (.int .i64 (seen + 1))).p7 (.bool false))
          have O := (((((OnlyH.refl H w).set 7 (.bool false)).set 4 (.int .i64 rm)).set 3 (.int .i64 (seen + 1))).set 7 (.bool false))
          exact ⟨rfl, T.drew, O.drew⟩
    · have hz : (room == 0) = false := by rw [beq_eq_false_iff_ne]; exact h0
      have hr1 : 0 < room := by omega
      obtain ⟨q1, q2, q3, q4⟩ := hmid hr1
      obtain ⟨lf, hlf⟩ : ∃ lf, n - seen = lf := ⟨_, rfl⟩
      rw [hsc, hlf] at q1 q2 q3 q4
      have e3 : 1 ≤ lf := by omega
      have e4 : lf ≤ 1024 := by omega
      obtain ⟨x1, hx1⟩ : ∃ x, 9 * sc = x := ⟨_, rfl⟩
      rw [hx1] at q1 q2 q3 q4
      obtain ⟨x2, hx2⟩ : ∃ x, x1 * lf = x := ⟨_, rfl⟩
      rw [hx2] at q1 q2 q3 q4
      obtain ⟨x3, hx3⟩ : ∃ x, room + x2 = x := ⟨_, rfl⟩
      rw [hx3] at q3 q4
      obtain ⟨x4, hx4⟩ : ∃ x, val * x3 = x := ⟨_, rfl⟩
      rw [hx4] at q3 q4
      obtain ⟨x5, hx5⟩ : ∃ x, 10 * room = x := ⟨_, rfl⟩
      have e5 : 10 ≤ x5 := by omega
      have e6 : x5 ≤ 61440 := by omega
      obtain ⟨x6, hx6⟩ : ∃ x, x4.tdiv x5 = x := ⟨_, rfl⟩
      have e7 : x6 = x4 / x5 := by rw [← hx6]; exact Int.tdiv_eq_ediv_of_nonneg q3
      have e8 : 0 ≤ x6 := by rw [e7]; exact Int.ediv_nonneg q3 (by omega)
      have e9 : x6 ≤ 2053681483563859968 := by rw [e7]; exact Int.le_trans (Int.ediv_le_self x5 q3) q4
      obtain ⟨nv, hnv⟩ : ∃ v, min 17592186044416 x6 = v := ⟨_, rfl⟩
      obtain ⟨nb, hnb⟩ : ∃ v, max best nv = v := ⟨_, rfl⟩
      have HNX : Hid (nx = ⟨n, mg, u, seen + 1, rm, nv, nb, decide (rm < 0)⟩) := Lib.hid (by
        rw [← hnx, HN.out, HB.out, HV.out, if_neg (by simp [h0]), if_neg (by simp [h0]), hsc, hrm, hlf, hx1, hx2, hx3, hx4, hx5, ← e7, hnv, hnb])
      rw [hnx, HNX.out]
      have e10 : 0 ≤ nv := by omega
      have e11 : nv ≤ 17592186044416 := by omega
      have zz : ¬ x5 = 0 := by omega
      have zz2 : (x5 == 0) = false := by rw [beq_eq_false_iff_ne]; omega
      rcases Int.lt_or_le rm 0 with hp | hp
      · have hd2 : decide (rm < (0 : Int)) = true := decide_eq_true hp
        rw [hd2]
        clear HN HV HB HNX hnx h0 e7 a13 hmid
        go_enter Try.func12, Try.ntmps12
        go_wp2_with fail
        all_goals go_region
        all_goals go_wp2_with fail
        all_goals go_region
        all_goals go_wp2_with fail
        all_goals go_region
        all_goals go_wp2_with fail
        all_goals go_region
        all_goals go_wp2_with fail
        all_goals
          go_ret
          have T := (((((HM.out.p5 (.int .i64 nv)).p6 (.int .i64 nb)).p4 (.int .i64 rm)).p3 (.int .i64 (seen + 1))).p7 (.bool true))
          have O := ((((((OnlyH.refl H w).set 5 (.int .i64 nv)).set 6 (.int .i64 nb)).set 4 (.int .i64 rm)).set 3 (.int .i64 (seen + 1))).set 7 (.bool true))
          exact ⟨rfl, T.drew.drew.drew.drew, O.drew.drew.drew.drew⟩
      · have hd2 : decide (rm < (0 : Int)) = false := decide_eq_false (by omega)
        rw [hd2]
        clear HN HV HB HNX hnx h0 e7 a13 hmid
        go_enter Try.func12, Try.ntmps12
        go_wp2_with fail
        all_goals go_region
        all_goals go_wp2_with fail
        all_goals go_region
        all_goals go_wp2_with fail
        all_goals go_region
        all_goals go_wp2_with fail
        all_goals go_region
        all_goals go_wp2_with fail
        all_goals
          go_ret
          have T := (((((HM.out.p5 (.int .i64 nv)).p6 (.int .i64 nb)).p4 (.int .i64 rm)).p3 (.int .i64 (seen + 1))).p7 (.bool false))
          have O := ((((((OnlyH.refl H w).set 5 (.int .i64 nv)).set 6 (.int .i64 nb)).set 4 (.int .i64 rm)).set 3 (.int .i64 (seen + 1))).set 7 (.bool false))
          exact ⟨rfl, T.drew.drew.drew.drew, O.drew.drew.drew.drew⟩
  · have hr0 : room < 0 := of_decide_eq_true a13.symm
    have hd2 : decide (rm < (0 : Int)) = true := decide_eq_true (by omega)
    have HNX : Hid (nx = ⟨n, mg, u, seen + 1, rm, val, best, true⟩) := Lib.hid (by
      rw [← hnx, HN.out, HB.out, HV.out, if_pos (.inl rfl), if_pos (.inl rfl), hsc, hrm, hd2])
    rw [hnx, HNX.out]
    clear HN HV HB HNX hnx hmid a13
    go_enter Try.func12, Try.ntmps12
    go_wp2_with fail
    all_goals go_region
    all_goals go_wp2_with fail
    all_goals
      go_ret
      have T := (((HM.out.p4 (.int .i64 rm)).p3 (.int .i64 (seen + 1))).p7 (.bool true))
      have O := ((((OnlyH.refl H w).set 4 (.int .i64 rm)).set 3 (.int .i64 (seen + 1))).set 7 (.bool true))
      exact ⟨rfl, T.drew, O.drew⟩

end Go.Proofs.Ytlhkjkhbgebgiaa
