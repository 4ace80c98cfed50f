/- The reference of fixed: ten, round, Of, Mul, Div. -/
import Derived.Test.YtaommeapngbgeaaDoorF1
import Derived.Test.YtaommeapngbgeaaDoorGL
import Derived.Test.YtaommeapngbgeaaDoorR9
namespace Go.Proofs.YtaommeapngbgeaaDoor
open Go.RowKit Go.Proofs.Kit Go.Proofs.Nums

theorem bits_ten (k : Nat) (h : k ≤ 6) : (bitsN (10 ^ k)).length ≤ 20 := by
  refine bits_len_le _ _ (Nat.lt_of_le_of_lt (Nat.pow_le_pow_right (by omega) h) (by decide))

set_option maxHeartbeats 2000000 in
theorem ten_n (n : Nat) (z : Int) (w : World) (hz : z = (n : Int)) (hn : n ≤ 6) :
    Calls Tryd.prog 43 #[.int .i64 z] w fun e w' => ∃ v', e = .returned v' ∧ BitAt w' v' (bitsN (10 ^ n)) ∧ Below w.heap.size w w' := by
  subst hz
  have S1 : Hid (∀ w, Calls Tryd.prog 63 #[.int .i64 1] w fun e w' => ∃ v', e = .returned v' ∧ BitAt w' v' (bitsN 1) ∧ Below w.heap.size w w') := Lib.hid (fun w => small_any 1 w (by omega))
  have S10 : Hid (∀ w, Calls Tryd.prog 63 #[.int .i64 10] w fun e w' => ∃ v', e = .returned v' ∧ BitAt w' v' (bitsN 10) ∧ Below w.heap.size w w') := Lib.hid (fun w => small_any 10 w (by omega))
  have MU : Hid (∀ k va vb w, k ≤ 6 → BitAt w va (bitsN (10 ^ k)) → BitAt w vb (bitsN 10) → Calls Tryd.prog 42 #[va, vb] w fun e w' => ∃ v', e = .returned v' ∧ BitAt w' v' (bitsN (10 ^ (k + 1))) ∧ Below w.heap.size w w') := Lib.hid (fun k va vb w hk h h' => by
    have := rmul_b va vb _ _ w h h' (Nat.le_trans (bits_ten k hk) (by omega)) (by decide)
    rw [← Nat.pow_succ] at this
    exact this)
  go_enter Tryd.func43, Tryd.ntmps43
  go_wp2_with (go_at_call 63; ((with_reducible refine (S1.out _).mono ?_); rintro e w1 ⟨v1, rfl, hv1, hb1⟩))
  go_loopw [3, 4] (fun bv i wr => ∃ k : Nat, k ≤ n ∧ i = .int .i64 k ∧ BitAt wr bv (bitsN (10 ^ k)) ∧ Below w.heap.size w wr) (fun _ i _ => n - (intOf i).toNat)
  case atStart => exact ⟨0, by omega, rfl, hv1, hb1⟩
  case round =>
    obtain ⟨k, hk, rfl, hO, hbel⟩ := hrel
    by_cases hlt : k < n
    · go_wp2_with (first
        | (go_at_call 63; ((with_reducible refine (S10.out _).mono ?_); rintro e w2 ⟨v2, rfl, hv2, hb2⟩; have hO2 := hO.keep hb2))
        | (go_at_call 42; ((with_reducible refine (MU.out k _ _ _ (by omega) hO2 hv2).mono ?_); rintro e w3 ⟨v3, rfl, hv3, hb3⟩)))
      go_roundw
      case rel => exact ⟨k + 1, by omega, by go_num, hv3, bel2' (bel2' hbel hb2) hb3⟩
      case measure => simp [intOf] <;> omega
    · obtain rfl : k = n := by omega
      go_wp2_with fail
      go_ret
      exact ⟨_, rfl, hO, hbel⟩

set_option maxHeartbeats 2000000 in
theorem round_n {va vb : Value} {n m : Nat} {up : Bool} {w : World} (ha : BitAt w va (bitsN n)) (hb : BitAt w vb (bitsN m)) (h1 : (bitsN n).length ≤ 30000) (h2 : (bitsN m).length ≤ 30000) (hm : 0 < m) :
    Calls Tryd.prog 41 #[va, vb, .bool up] w fun e w' => ∃ v', e = .returned v' ∧ BitAt w' v' (bitsN (quo n m up)) ∧ Below w.heap.size w w' := by
  have D : Hid (Calls Tryd.prog 61 #[va, vb] w fun e w' => ∃ vq p r k, e = .returned (.tuple #[vq, .slice p r k]) ∧ BitAt w' vq (bitsN (n / m)) ∧ r = (bitsN (n % m)).length ∧ Below w.heap.size w w') := Lib.hid ((rdiv_n va vb n m w ha hb (by omega) (by omega) hm).mono (by
    rintro e w' ⟨vq, vr, rfl, h1, h2, h3⟩
    obtain ⟨p, k, e2⟩ := h2.shape
    subst e2
    exact ⟨_, _, _, _, rfl, h1, rfl, h3⟩))
  have ON : Hid (∀ w, Calls Tryd.prog 63 #[.int .i64 1] w fun e w' => ∃ v', e = .returned v' ∧ BitAt w' v' (bitsN 1) ∧ Below w.heap.size w w') := Lib.hid (fun w => small_any 1 w (by omega))
  have hqle : (bitsN (n / m)).length ≤ 30000 := Nat.le_trans (bits_len_le' (Nat.div_le_self n m)) h1
  have AD : Hid (∀ va vb w, BitAt w va (bitsN (n / m)) → BitAt w vb (bitsN 1) → Calls Tryd.prog 62 #[va, vb] w fun e w' => ∃ v', e = .returned v' ∧ BitAt w' v' (bitsN (n / m + 1)) ∧ Below w.heap.size w w') := Lib.hid (fun va vb w h h' => radd_n va vb _ _ w h h' (Nat.le_trans hqle (by omega)) (by unfold Sm; decide))
  have HZ : Hid ((bitsN (n % m)).length = 0 ↔ n % m = 0) := Lib.hid ⟨fun h => bits_eq_nil.1 (List.eq_nil_of_length_eq_zero h), fun h => by rw [h]; rfl⟩
  have HQ : Hid (quo n m up = n / m + (if up && decide (n % m ≠ 0) then 1 else 0)) := Lib.hid rfl
  rw [HQ.out]
  obtain ⟨q, hq⟩ : ∃ q, n / m = q := ⟨_, rfl⟩
  obtain ⟨r, hr⟩ : ∃ r, n % m = r := ⟨_, rfl⟩
  rw [hq] at D AD ⊢
  rw [hr] at D HZ ⊢
  obtain ⟨rl, hrl⟩ : ∃ k, (bitsN r).length = k := ⟨_, rfl⟩
  rw [hrl] at D HZ
  clear ha hb h1 h2 hm HQ hq hr hrl hqle
  have hcase : (up = false) ∨ (up = true ∧ rl = 0) ∨ (up = true ∧ 0 < rl) := by
    cases up
    · exact .inl rfl
    · rcases Nat.eq_zero_or_pos rl with h | h
      · exact .inr (.inl ⟨rfl, h⟩)
      · exact .inr (.inr ⟨rfl, h⟩)
  rcases hcase with rfl | ⟨rfl, h0⟩ | ⟨rfl, h0⟩
  · have e : q + (if (false && decide (r ≠ 0)) = true then 1 else 0) = q := by simp
    rw [e]
    go_enter Tryd.func41, Tryd.ntmps41
    go_wp2_with (go_at_call 61; ((with_reducible refine (D.out).mono ?_); rintro e w1 ⟨vq, p, rr, k, rfl, hv1, rfl, hb1⟩))
    go_ret
    exact ⟨_, rfl, hv1, hb1⟩
  · have e : q + (if (true && decide (r ≠ 0)) = true then 1 else 0) = q := by simp [HZ.out.1 h0]
    rw [e]
    subst h0
    go_enter Tryd.func41, Tryd.ntmps41
    go_wp2_with (go_at_call 61; ((with_reducible refine (D.out).mono ?_); rintro e w1 ⟨vq, p, rr, k, rfl, hv1, rfl, hb1⟩))
    go_ret
    exact ⟨_, rfl, hv1, hb1⟩
  · have e : q + (if (true && decide (r ≠ 0)) = true then 1 else 0) = q + 1 := by
      have : r ≠ 0 := fun h => by have := HZ.out.2 h; omega
      simp [this]
    rw [e]
    go_enter Tryd.func41, Tryd.ntmps41
    go_wp2_with (first
      | (go_at_call 61; ((with_reducible refine (D.out).mono ?_); rintro e w1 ⟨vq, p, rr, k, rfl, hv1, rfl, hb1⟩))
      | (go_at_call 63; ((with_reducible refine (ON.out _).mono ?_); rintro e w2 ⟨v2, rfl, hv2, hb2⟩; have hv12 := hv1.keep hb2))
      | (go_at_call 62; ((with_reducible refine (AD.out _ _ _ hv12 hv2).mono ?_); rintro e w3 ⟨v3, rfl, hv3, hb3⟩)))
    go_ret
    exact ⟨_, rfl, hv3, bel2' (bel2' hb1 hb2) hb3⟩

set_option maxHeartbeats 1000000 in
theorem rfmul_n {va vb : Value} {n m d : Nat} {up : Bool} {z : Int} {w : World} (ha : BitAt w va (bitsN n)) (hb : BitAt w vb (bitsN m)) (h1 : (bitsN n).length ≤ 10000) (h2 : (bitsN m).length ≤ 10000) (hz : z = (d : Int)) (hd : d ≤ 6) :
    Calls Tryd.prog 16 #[va, vb, .int .i64 z, .bool up] w fun e w' => ∃ v', e = .returned v' ∧ BitAt w' v' (bitsN (quo (n * m) (10 ^ d) up)) ∧ Below w.heap.size w w' := by
  have MU := Lib.hid (rmul_b va vb n m w ha hb (by omega) (by omega))
  have TE := Lib.hid (fun w => ten_n d z w hz hd)
  have RO : Hid (∀ va vb w, BitAt w va (bitsN (n * m)) → BitAt w vb (bitsN (10 ^ d)) → Calls Tryd.prog 41 #[va, vb, .bool up] w fun e w' => ∃ v', e = .returned v' ∧ BitAt w' v' (bitsN (quo (n * m) (10 ^ d) up)) ∧ Below w.heap.size w w') := Lib.hid (fun va vb w h h' => round_n h h' (Nat.le_trans (len_mul h1 h2) (by omega)) (Nat.le_trans (bits_ten d hd) (by omega)) (Nat.pow_pos (by omega)))
  obtain ⟨p, hp⟩ : ∃ p, 10 ^ d = p := ⟨_, rfl⟩
  obtain ⟨x, hx⟩ : ∃ x, n * m = x := ⟨_, rfl⟩
  rw [hp] at TE RO ⊢
  rw [hx] at MU RO ⊢
  clear hz hd hp hx h1 h2 ha hb
  go_enter Tryd.func16, Tryd.ntmps16
  go_wp2_with (first
    | (go_at_call 42; ((with_reducible refine (MU.out).mono ?_); rintro e w1 ⟨v1, rfl, hv1, hb1⟩))
    | (go_at_call 43; ((with_reducible refine (TE.out _).mono ?_); rintro e w2 ⟨v2, rfl, hv2, hb2⟩; have hv12 := hv1.keep hb2))
    | (go_at_call 41; ((with_reducible refine (RO.out _ _ _ hv12 hv2).mono ?_); rintro e w3 ⟨v3, rfl, hv3, hb3⟩)))
  go_ret
  exact ⟨_, rfl, hv3, bel2' (bel2' hb1 hb2) hb3⟩

set_option maxHeartbeats 1000000 in
theorem rfdiv_n {va vb : Value} {n m d : Nat} {up : Bool} {z : Int} {w : World} (ha : BitAt w va (bitsN n)) (hb : BitAt w vb (bitsN m)) (h1 : (bitsN n).length ≤ 10000) (h2 : (bitsN m).length ≤ 10000) (hz : z = (d : Int)) (hd : d ≤ 6) (hm : 0 < m) :
    Calls Tryd.prog 18 #[va, vb, .int .i64 z, .bool up] w fun e w' => ∃ v', e = .returned v' ∧ BitAt w' v' (bitsN (quo (n * 10 ^ d) m up)) ∧ Below w.heap.size w w' := by
  have TE := Lib.hid (fun w => ten_n d z w hz hd)
  have MU : Hid (∀ vb w', Below w.heap.size w w' → BitAt w' vb (bitsN (10 ^ d)) → Calls Tryd.prog 42 #[va, vb] w' fun e w'' => ∃ v', e = .returned v' ∧ BitAt w'' v' (bitsN (n * 10 ^ d)) ∧ Below w'.heap.size w' w'') := Lib.hid (fun vb w' h h' => rmul_b va vb n _ w' (ha.keep h) h' (by omega) (Nat.le_trans (bits_ten d hd) (by omega)))
  have RO : Hid (∀ va w', Below w.heap.size w w' → BitAt w' va (bitsN (n * 10 ^ d)) → Calls Tryd.prog 41 #[va, vb, .bool up] w' fun e w'' => ∃ v', e = .returned v' ∧ BitAt w'' v' (bitsN (quo (n * 10 ^ d) m up)) ∧ Below w'.heap.size w' w'') := Lib.hid (fun va w' h h' => round_n h' (hb.keep h) (Nat.le_trans (len_mul h1 (bits_ten d hd)) (by omega)) (by omega) hm)
  obtain ⟨p, hp⟩ : ∃ p, 10 ^ d = p := ⟨_, rfl⟩
  obtain ⟨x, hx⟩ : ∃ x, n * p = x := ⟨_, rfl⟩
  rw [hp] at TE MU RO ⊢
  rw [hx] at MU RO ⊢
  clear hz hd hp hx h1 h2 ha hb hm
  go_enter Tryd.func18, Tryd.ntmps18
  go_wp2_with (first
    | (go_at_call 43; ((with_reducible refine (TE.out _).mono ?_); rintro e w1 ⟨v1, rfl, hv1, hb1⟩))
    | (go_at_call 42; ((with_reducible refine (MU.out _ _ hb1 hv1).mono ?_); rintro e w2 ⟨v2, rfl, hv2, hb2⟩; have hB2 := bel2' hb1 hb2))
    | (go_at_call 41; ((with_reducible refine (RO.out _ _ hB2 hv2).mono ?_); rintro e w3 ⟨v3, rfl, hv3, hb3⟩)))
  go_ret
  exact ⟨_, rfl, hv3, bel2' hB2 hb3⟩

set_option maxHeartbeats 1000000 in
theorem rfof_n {n d : Nat} {z : Int} {w : World} (hn : n < 18446744073709551616) (hz : z = (d : Int)) (hd : d ≤ 6) :
    Calls Tryd.prog 20 #[.int .u64 n, .int .i64 z] w fun e w' => ∃ v', e = .returned v' ∧ BitAt w' v' (bitsN (n * 10 ^ d)) ∧ Below w.heap.size w w' := by
  have TE := Lib.hid (fun w => ten_n d z w hz hd)
  have hnl : (bitsN n).length ≤ 64 := bits_len_le n 64 hn
  have MU : Hid (∀ va vb w', BitAt w' va (bitsN n) → BitAt w' vb (bitsN (10 ^ d)) → Calls Tryd.prog 42 #[va, vb] w' fun e w'' => ∃ v', e = .returned v' ∧ BitAt w'' v' (bitsN (n * 10 ^ d)) ∧ Below w'.heap.size w' w'') := Lib.hid (fun va vb w' h h' => rmul_b va vb n _ w' h h' (by omega) (Nat.le_trans (bits_ten d hd) (by omega)))
  have hlow : n % 4294967296 < 4294967296 := Nat.mod_lt _ (by omega)
  have hhigh : n / 4294967296 < 4294967296 := by omega
  have hA := NatAt.lit2 w (n % 4294967296) (n / 4294967296) hlow hhigh
  have hv : val [n % 4294967296, n / 4294967296] = n := by simp only [val]; omega
  have F := Lib.hid (from_any _ _ _ hA (by simp))
  have HV := Lib.hid hv
  obtain ⟨p, hp⟩ : ∃ p, 10 ^ d = p := ⟨_, rfl⟩
  rw [hp] at TE MU ⊢
  clear hA hv hz hd hp hnl
  go_enter Tryd.func20, Tryd.ntmps20
  go_wp2_with (first
    | (go_at_call 12; refine F.out.mono ?_; rw [HV.out]; rintro e w1 ⟨v1, rfl, hv1, hb1⟩)
    | (go_at_call 43; ((with_reducible refine (TE.out _).mono ?_); rintro e w2 ⟨v2, rfl, hv2, hb2⟩; have hv12 := hv1.keep hb2))
    | (go_at_call 42; ((with_reducible refine (MU.out _ _ _ hv12 hv2).mono ?_); rintro e w3 ⟨v3, rfl, hv3, hb3⟩)))
  go_ret
  exact ⟨_, rfl, hv3, bel2' (bel2' (below_on hb1) hb2) hb3⟩

end Go.Proofs.YtaommeapngbgeaaDoor
