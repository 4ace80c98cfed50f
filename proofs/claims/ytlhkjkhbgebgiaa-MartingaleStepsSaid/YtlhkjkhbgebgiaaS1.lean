/- The reference's meter: NewMeter, Step; New and Step that fail. -/
import Derived.Test.YtlhkjkhbgebgiaaV5
namespace Go.Proofs.Ytlhkjkhbgebgiaa
open Go.RowKit Go.Proofs.Kit Go.Proofs.Nums

/-- A meter of the reference lies in block R. -/
def RMeterAt (w : World) (R : Nat) (s : Mt) : Prop := Blk R #[.int .i64 s.n, .int .i64 s.mg, .int .i64 s.u, .int .i64 (s.n - s.seen), .int .i64 s.room, .int .i64 s.val, .int .i64 s.best, .bool s.pr] w
theorem RMeterAt.keep {w w' : World} {R : Nat} {s : Mt} (h : RMeterAt w R s) (hb : Below w.heap.size w w') : RMeterAt w' R s := Blk.keep h hb
theorem RMeterAt.of {w : World} {R : Nat} {n mg u seen room val best l : Int} {pr : Bool} (h : Blk R #[.int .i64 n, .int .i64 mg, .int .i64 u, .int .i64 l, .int .i64 room, .int .i64 val, .int .i64 best, .bool pr] w) (hl : n - seen = l) : RMeterAt w R ⟨n, mg, u, seen, room, val, best, pr⟩ := by
  subst hl
  exact h

set_option maxRecDepth 100000 in
set_option maxHeartbeats 4000000 in
theorem new_bad {n mg u : Int} (h : ¬ (1 ≤ n ∧ n ≤ 1024 ∧ 2 ≤ u ∧ u ≤ 6 ∧ 1 ≤ mg ∧ mg ≤ n * u)) (w : World) :
    Calls Try.prog 11 #[.agg #[.int .i64 n, .int .i64 mg, .int .i64 u]] w fun e w' => e = .returned (.tuple #[.pointer none, .int .i64 4]) ∧ Below w.heap.size w w' := by
  obtain ⟨m0, m1, m2⟩ := (Blk.new w #[.int .i64 n, .int .i64 mg, .int .i64 u] 24).three
  by_cases g1 : n < 1
  · clear h
    go_enter Try.func11, Try.ntmps11
    go_wp2_with fail
    go_ret2
    exact ⟨rfl, (Below.refl _ _).alloc (Nat.le_refl _) _⟩
  by_cases g2 : 1024 < n
  · clear h
    go_enter Try.func11, Try.ntmps11
    go_wp2_with fail
    go_ret2
    exact ⟨rfl, (Below.refl _ _).alloc (Nat.le_refl _) _⟩
  by_cases g3 : u < 2
  · clear h
    go_enter Try.func11, Try.ntmps11
    go_wp2_with fail
    go_ret2
    exact ⟨rfl, (Below.refl _ _).alloc (Nat.le_refl _) _⟩
  by_cases g4 : 6 < u
  · clear h
    go_enter Try.func11, Try.ntmps11
    go_wp2_with fail
    go_ret2
    exact ⟨rfl, (Below.refl _ _).alloc (Nat.le_refl _) _⟩
  by_cases g5 : mg < 1
  · clear h
    go_enter Try.func11, Try.ntmps11
    go_wp2_with fail
    go_ret2
    exact ⟨rfl, (Below.refl _ _).alloc (Nat.le_refl _) _⟩
  have hb : n * u ≤ 1024 * 6 := Int.mul_le_mul (by omega) (by omega) (by omega) (by omega)
  have hb0 : 1 * 2 ≤ n * u := Int.mul_le_mul (by omega) (by omega) (by omega) (by omega)
  obtain ⟨p, hp⟩ : ∃ p, n * u = p := ⟨_, rfl⟩
  rw [hp] at h hb hb0
  have g6 : p < mg := by omega
  clear h
  go_enter Try.func11, Try.ntmps11
  go_wp2_with fail
  go_ret2
  exact ⟨rfl, (Below.refl _ _).alloc (Nat.le_refl _) _⟩

set_option maxRecDepth 100000 in
set_option maxHeartbeats 4000000 in
theorem rnew_bad {n mg u : Int} (h : ¬ (1 ≤ n ∧ n ≤ 1024 ∧ 2 ≤ u ∧ u ≤ 6 ∧ 1 ≤ mg ∧ mg ≤ n * u)) (w : World) :
    Calls Try.prog 21 #[.agg #[.int .i64 n, .int .i64 mg, .int .i64 u]] w fun e w' => e = .returned (.tuple #[.agg #[.int .i64 0, .int .i64 0, .int .i64 0, .int .i64 0, .int .i64 0, .int .i64 0, .int .i64 0, .bool false], .int .i64 4]) ∧ Below w.heap.size w w' := by
  obtain ⟨m0, m1, m2⟩ := (Blk.new w #[.int .i64 n, .int .i64 mg, .int .i64 u] 24).three
  by_cases g1 : n < 1
  · clear h
    go_enter Try.func21, Try.ntmps21
    go_wp2_with fail
    refine bodyPost_ret (v := .tuple #[.agg #[.int .i64 0, .int .i64 0, .int .i64 0, .int .i64 0, .int .i64 0, .int .i64 0, .int .i64 0, .bool false], .int .i64 4]) (by simp [results, Try.results21, go_sem]) rfl ?_
    exact ⟨rfl, by repeat' (first | exact Below.refl _ _ | refine Below.setCell ?_ (by simp) _ | refine Below.alloc ?_ (by simp) _)⟩
  by_cases g2 : 1024 < n
  · clear h
    go_enter Try.func21, Try.ntmps21
    go_wp2_with fail
    refine bodyPost_ret (v := .tuple #[.agg #[.int .i64 0, .int .i64 0, .int .i64 0, .int .i64 0, .int .i64 0, .int .i64 0, .int .i64 0, .bool false], .int .i64 4]) (by simp [results, Try.results21, go_sem]) rfl ?_
    exact ⟨rfl, by repeat' (first | exact Below.refl _ _ | refine Below.setCell ?_ (by simp) _ | refine Below.alloc ?_ (by simp) _)⟩
  by_cases g3 : u < 2
  · clear h
    go_enter Try.func21, Try.ntmps21
    go_wp2_with fail
    refine bodyPost_ret (v := .tuple #[.agg #[.int .i64 0, .int .i64 0, .int .i64 0, .int .i64 0, .int .i64 0, .int .i64 0, .int .i64 0, .bool false], .int .i64 4]) (by simp [results, Try.results21, go_sem]) rfl ?_
    exact ⟨rfl, by repeat' (first | exact Below.refl _ _ | refine Below.setCell ?_ (by simp) _ | refine Below.alloc ?_ (by simp) _)⟩
  by_cases g4 : 6 < u
  · clear h
    go_enter Try.func21, Try.ntmps21
    go_wp2_with fail
    refine bodyPost_ret (v := .tuple #[.agg #[.int .i64 0, .int .i64 0, .int .i64 0, .int .i64 0, .int .i64 0, .int .i64 0, .int .i64 0, .bool false], .int .i64 4]) (by simp [results, Try.results21, go_sem]) rfl ?_
    exact ⟨rfl, by repeat' (first | exact Below.refl _ _ | refine Below.setCell ?_ (by simp) _ | refine Below.alloc ?_ (by simp) _)⟩
  by_cases g5 : mg < 1
  · clear h
    go_enter Try.func21, Try.ntmps21
    go_wp2_with fail
    refine bodyPost_ret (v := .tuple #[.agg #[.int .i64 0, .int .i64 0, .int .i64 0, .int .i64 0, .int .i64 0, .int .i64 0, .int .i64 0, .bool false], .int .i64 4]) (by simp [results, Try.results21, go_sem]) rfl ?_
    exact ⟨rfl, by repeat' (first | exact Below.refl _ _ | refine Below.setCell ?_ (by simp) _ | refine Below.alloc ?_ (by simp) _)⟩
  have hb : n * u ≤ 1024 * 6 := Int.mul_le_mul (by omega) (by omega) (by omega) (by omega)
  have hb0 : 1 * 2 ≤ n * u := Int.mul_le_mul (by omega) (by omega) (by omega) (by omega)
  obtain ⟨p, hp⟩ : ∃ p, n * u = p := ⟨_, rfl⟩
  rw [hp] at h hb hb0
  have g6 : p < mg := by omega
  clear h
  go_enter Try.func21, Try.ntmps21
  go_wp2_with fail
  refine bodyPost_ret (v := .tuple #[.agg #[.int .i64 0, .int .i64 0, .int .i64 0, .int .i64 0, .int .i64 0, .int .i64 0, .int .i64 0, .bool false], .int .i64 4]) (by simp [results, Try.results21, go_sem]) rfl ?_
  exact ⟨rfl, by repeat' (first | exact Below.refl _ _ | refine Below.setCell ?_ (by simp) _ | refine Below.alloc ?_ (by simp) _)⟩

set_option maxRecDepth 100000 in
set_option maxHeartbeats 2000000 in
theorem rnew_c {n mg u : Int} (h1 : 1 ≤ n) (h2 : n ≤ 1024) (h3 : 2 ≤ u) (h4 : u ≤ 6) (h5 : 1 ≤ mg) (h6 : mg ≤ n * u) (w : World) :
    Calls Try.prog 21 #[.agg #[.int .i64 n, .int .i64 mg, .int .i64 u]] w fun e w' => e = .returned (.tuple #[.agg #[.int .i64 n, .int .i64 mg, .int .i64 u, .int .i64 n, .int .i64 (n * u - mg), .int .i64 4294967296, .int .i64 4294967296, .bool false], .int .i64 0]) ∧ Below w.heap.size w w' := by
  have hb : n * u ≤ 1024 * 6 := Int.mul_le_mul h2 h4 (by omega) (by omega)
  obtain ⟨p, hp⟩ : ∃ p, n * u = p := ⟨_, rfl⟩
  rw [hp] at h6 hb ⊢
  obtain ⟨m0, m1, m2⟩ := (Blk.new w #[.int .i64 n, .int .i64 mg, .int .i64 u] 24).three
  have g1 : ¬ n < 1 := by omega
  have g2 : ¬ 1024 < n := by omega
  have g3 : ¬ u < 2 := by omega
  have g4 : ¬ 6 < u := by omega
  have g5 : ¬ mg < 1 := by omega
  have g6 : ¬ p < mg := by omega
  go_enter Try.func21, Try.ntmps21
  go_wp2_with fail
  refine bodyPost_ret (v := .tuple #[.agg #[.int .i64 n, .int .i64 mg, .int .i64 u, .int .i64 n, .int .i64 (p - mg), .int .i64 4294967296, .int .i64 4294967296, .bool false], .int .i64 0]) (by simp [results, Try.results21, go_sem]) rfl ?_
  exact ⟨rfl, by repeat' (first | exact Below.refl _ _ | refine Below.setCell ?_ (by simp) _ | refine Below.alloc ?_ (by simp) _)⟩

set_option maxRecDepth 100000 in
set_option maxHeartbeats 2000000 in
theorem step_range {H : Nat} {s : Mt} {o : Int} {w : World} (hm : MeterAt w H s) (hu1 : 2 ≤ s.u) (hu2 : s.u ≤ 6) (h3 : s.seen < s.n) (h : ¬ (-s.u ≤ o ∧ o ≤ s.u)) :
    Calls Try.prog 12 #[.pointer (some ⟨H, 0, none⟩), .int .i64 o] w fun e w' => e = .returned (.int .i64 4) ∧ Below w.heap.size w w' := by
  obtain ⟨c0, c1, c2, c3, c4, c5, c6, c7⟩ := hm.eight
  obtain ⟨n, hn⟩ : ∃ n, s.n = n := ⟨_, rfl⟩
  obtain ⟨sn, hsn⟩ : ∃ n, s.seen = n := ⟨_, rfl⟩
  obtain ⟨u, hu⟩ : ∃ n, s.u = n := ⟨_, rfl⟩
  rw [hn] at c0 h3
  rw [hsn] at c3 h3
  rw [hu] at c2 h hu1 hu2
  have n2 : (sn == n) = false := by rw [beq_eq_false_iff_ne]; omega
  clear hm hn hsn hu c1 c4 c5 c6 c7
  by_cases n3 : o < -u
  · clear h
    go_enter Try.func12, Try.ntmps12
    go_wp2_with fail
    all_goals go_region
    all_goals go_wp2_with fail
    all_goals go_ret
    all_goals exact ⟨rfl, by first | exact (Below.refl _ _).drew | exact Below.refl _ _⟩
  · have n4 : u < o := by omega
    clear h
    go_enter Try.func12, Try.ntmps12
    go_wp2_with fail
    all_goals go_region
    all_goals go_wp2_with fail
    all_goals go_ret
    all_goals exact ⟨rfl, by first | exact (Below.refl _ _).drew | exact Below.refl _ _⟩

set_option maxRecDepth 100000 in
set_option maxHeartbeats 2000000 in
theorem rstep_closed {R : Nat} {s : Mt} {o : Int} {w : World} (hm : RMeterAt w R s) (h3 : s.seen = s.n) :
    Calls Try.prog 22 #[.pointer (some ⟨R, 0, none⟩), .int .i64 o] w fun e w' => e = .returned (.int .i64 11) ∧ w = w' := by
  obtain ⟨c0, c1, c2, c3, c4, c5, c6, c7⟩ := Blk.eight hm
  have h0 : s.n - s.seen = 0 := by omega
  rw [h0] at c3
  clear hm h3 h0 c0 c1 c2 c4 c5 c6 c7
  go_enter Try.func22, Try.ntmps22
  go_wp2_with fail
  go_ret
  exact ⟨rfl, rfl⟩

set_option maxRecDepth 100000 in
set_option maxHeartbeats 2000000 in
theorem rstep_range {R : Nat} {s : Mt} {o : Int} {w : World} (hm : RMeterAt w R s) (hu1 : 2 ≤ s.u) (hu2 : s.u ≤ 6) (h3 : s.seen < s.n) (h : ¬ (-s.u ≤ o ∧ o ≤ s.u)) :
    Calls Try.prog 22 #[.pointer (some ⟨R, 0, none⟩), .int .i64 o] w fun e w' => e = .returned (.int .i64 4) ∧ w = w' := by
  obtain ⟨c0, c1, c2, c3, c4, c5, c6, c7⟩ := Blk.eight hm
  obtain ⟨l, hl⟩ : ∃ n, s.n - s.seen = n := ⟨_, rfl⟩
  obtain ⟨u, hu⟩ : ∃ n, s.u = n := ⟨_, rfl⟩
  rw [hl] at c3
  rw [hu] at c2 h hu1 hu2
  have n2 : (l == 0) = false := by rw [beq_eq_false_iff_ne]; omega
  clear hm hl hu c0 c1 c4 c5 c6 c7
  by_cases n3 : o < -u
  · clear h
    go_enter Try.func22, Try.ntmps22
    go_wp2_with fail
    go_ret
    exact ⟨rfl, rfl⟩
  · have n4 : u < o := by omega
    clear h
    go_enter Try.func22, Try.ntmps22
    go_wp2_with fail
    go_ret
    exact ⟨rfl, rfl⟩

end Go.Proofs.Ytlhkjkhbgebgiaa
