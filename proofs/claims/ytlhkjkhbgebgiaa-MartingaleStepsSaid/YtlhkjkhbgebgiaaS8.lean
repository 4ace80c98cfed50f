/- Risk of the law: a risk limit of small numbers. -/
import Derived.Test.YtlhkjkhbgebgiaaV5
namespace Go.Proofs.Ytlhkjkhbgebgiaa
open Go.RowKit Go.Proofs.Kit Go.Proofs.Nums

set_option maxRecDepth 100000 in
set_option maxHeartbeats 4000000 in
theorem lrisk_c (a b : Int) (w : World) : ∃ k d : Nat, 0 < k ∧ k ≤ d ∧ d ≤ 30 ∧
    Calls Try.prog 9 #[.int .i64 a, .int .i64 b] w (GivesN (Q.mk' false k d) 2 w) := by
  have MD := Lib.hid (fun x k (h1 : (1 : Int) ≤ k) (h2 : k ≤ 1000000) w => mod_c x k h1 h2 w)
  obtain ⟨B, hB0, hB1, hB⟩ : ∃ B, 0 ≤ B ∧ B ≤ 29 ∧ B = b % 30 := ⟨_, by omega, by omega, rfl⟩
  have CB : Hid (∀ w, Calls Try.prog 16 #[.int .i64 b, .int .i64 30] w fun e w' => e = .returned (.int .i64 B) ∧ w = w') := Lib.hid (fun w => by rw [hB]; exact MD.out b 30 (by omega) (by omega) w)
  obtain ⟨dz, hdz⟩ : ∃ x, 1 + B = x := ⟨_, rfl⟩
  have d1 : 1 ≤ dz := by omega
  have d2 : dz ≤ 30 := by omega
  have r1 := Int.emod_nonneg a (show dz ≠ 0 by omega)
  have r2 := Int.emod_lt_of_pos a (show 0 < dz by omega)
  obtain ⟨A, hA⟩ : ∃ A, a % dz = A := ⟨_, rfl⟩
  rw [hA] at r1 r2
  have CA : Hid (∀ w, Calls Try.prog 16 #[.int .i64 a, .int .i64 dz] w fun e w' => e = .returned (.int .i64 A) ∧ w = w') := Lib.hid (fun w => by rw [← hA]; exact MD.out a dz (by omega) (by omega) w)
  obtain ⟨kz, hkz⟩ : ∃ x, 1 + A = x := ⟨_, rfl⟩
  obtain ⟨k, hk⟩ : ∃ k : Nat, kz = k := ⟨kz.toNat, by omega⟩
  obtain ⟨d, hd⟩ : ∃ d : Nat, dz = d := ⟨dz.toNat, by omega⟩
  have FR : Hid (∀ w, Calls Try.prog 20 #[.int .i64 kz, .int .i64 dz] w (GivesN (Q.mk' false k d) 2 w)) := Lib.hid (fun w => by rw [hk, hd]; exact fraction_c k d (by omega) (by omega) (by omega) (by omega) w)
  refine ⟨k, d, by omega, by omega, by omega, ?_⟩
  have BB := Lib.hid (Blk.new w #[.bool false, .slice none 0 0, .slice none 0 0] 30)
  have hBd : Below w.heap.size w (w.alloc (.cells #[.bool false, .slice none 0 0, .slice none 0 0] 30)) := (Below.refl _ _).alloc (Nat.le_refl _) _
  obtain ⟨q, hq⟩ : ∃ q, Q.mk' false k d = q := ⟨_, rfl⟩
  rw [hq] at FR ⊢
  clear MD hB hA hq hk hd
  go_enter Try.func9, Try.ntmps9
  go_wp2_with (first
    | (go_at_call 16; ((with_reducible refine (CB.out _).mono ?_); rintro e w1 ⟨rfl, rfl⟩))
    | (go_at_call 16; ((with_reducible refine (CA.out _).mono ?_); rintro e w1 ⟨rfl, rfl⟩))
    | (go_at_call 20; ((with_reducible refine (FR.out _).mono ?_); rintro e w7 ⟨p7, l7, k7, p8, l8, k8, rfl, hq7, hb7⟩; have hB7 := bel2' hBd hb7; have B7 := Lib.hid (BB.out.keep hb7); obtain ⟨c0, c1, c2⟩ := B7.out.three; obtain ⟨f0, f1, f2⟩ := B7.out.free3)))
  refine bodyPost_ret (v := .agg #[.bool q.neg, .slice p7 l7 k7, .slice p8 l8 k8]) (by simp [results, Try.results9, go_sem, c0, c1, c2]) rfl ?_
  obtain ⟨vn, vd, ev, hn, hd⟩ := hq7
  simp only [Value.agg.injEq, Array.mk.injEq, List.cons.injEq, true_and, and_true] at ev
  obtain ⟨rfl, rfl⟩ := ev
  have := retN hB7 (Nat.le_refl _) B7.out (by intro t h; cases h) (by intro t h; cases h) (by intro t h; cases h) hn hd
  exact ⟨_, _, _, _, _, _, rfl, this.1, this.2⟩

end Go.Proofs.Ytlhkjkhbgebgiaa
