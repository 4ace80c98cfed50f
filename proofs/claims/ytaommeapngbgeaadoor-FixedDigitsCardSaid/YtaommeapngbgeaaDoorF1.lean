/- fixed: power, quotient, Of, Mul, Div. -/
import Derived.Test.YtaommeapngbgeaaDoorF0
import Derived.Test.YtaommeapngbgeaaDoorGI2
import Derived.Test.YtaommeapngbgeaaDoorGG
import Derived.Test.YtaommeapngbgeaaDoorM2
namespace Go.Proofs.YtaommeapngbgeaaDoor
open Go.RowKit Go.Proofs.Kit Go.Proofs.Nums

set_option maxHeartbeats 1000000 in
theorem power_out (z : Int) (w : World) (hz : z < 0 ∨ 6 < z) :
    Calls Tryd.prog 38 #[.int .i64 z] w fun e w' => e = .returned (.tuple #[.slice none 0 0, .bool false]) ∧ Below w.heap.size w w' := by
  rcases hz with hz | hz
  · go_enter Tryd.func38, Tryd.ntmps38
    go_wp2_with fail
    go_ret2
    exact ⟨rfl, Below.refl _ _⟩
  · have h0 : ¬ z < 0 := by omega
    go_enter Tryd.func38, Tryd.ntmps38
    go_wp2_with fail
    go_ret2
    exact ⟨rfl, Below.refl _ _⟩

set_option maxHeartbeats 1000000 in
theorem power_in (d : Nat) (z : Int) (w : World) (hz : z = (d : Int)) (hd : d ≤ 6) :
    Calls Tryd.prog 38 #[.int .i64 z] w fun e w' => ∃ v, e = .returned (.tuple #[v, .bool true]) ∧ Num w' v (10 ^ d) 61 ∧ Below w.heap.size w w' := by
  have P : Hid (∀ w, Calls Tryd.prog 24 #[.int .i64 z] w fun e w' => ∃ v', e = .returned v' ∧ Num w' v' (10 ^ d) 61 ∧ Below w.heap.size w w') := Lib.hid (fun w => by
    subst hz
    refine (pow10_in d w (by omega)).mono ?_
    rintro e w' ⟨v', o, rfl, h1, h2, h3⟩
    exact ⟨v', rfl, ⟨o, h1, h2.out.1, h2.out.2⟩, h3⟩)
  have h1 : ¬ z < 0 := by omega
  have h2 : ¬ 6 < z := by omega
  clear hz
  go_enter Tryd.func38, Tryd.ntmps38
  go_wp2_with (go_at_call 24; ((with_reducible refine (P.out _).mono ?_); rintro e w1 ⟨v1, rfl, hv1, hb1⟩))
  go_ret2
  exact ⟨_, rfl, hv1, hb1⟩

set_option maxHeartbeats 2000000 in
theorem quotient_num {va vb : Value} {n m L M : Nat} {up : Bool} {w : World} (ha : Num w va n L) (hb : Num w vb m M) (hL : L ≤ 1000) (hM : M ≤ 1000) (hL2 : 2 ≤ L) (hm : 0 < m) :
    Calls Tryd.prog 39 #[va, vb, .bool up] w fun e w' => ∃ v', e = .returned v' ∧ Nrm w' v' (quo n m up) (max L M + 1) ∧ Below w.heap.size w w' := by
  have D : Hid (Calls Tryd.prog 47 #[va, vb] w fun e w' => ∃ vq p r k, e = .returned (.tuple #[vq, .slice p r k, .bool true]) ∧ Nrm w' vq (n / m) (max L M) ∧ r = (limbs (n % m)).length ∧ Below w.heap.size w w') := Lib.hid ((div_num ha hb (by omega) (by omega) hm).mono (by
    rintro e w' h
    obtain ⟨vq, vr, rfl, h1, h2, h3⟩ := h
    obtain ⟨p, k, e2⟩ := h2.1.shape
    subst e2
    exact ⟨_, _, _, _, rfl, h1.wider (by omega), rfl, h3⟩))
  have ON : Hid (∀ w, Calls Tryd.prog 28 #[.int .u64 1] w fun e w' => ∃ v', e = .returned v' ∧ Nrm w' v' 1 (max L M) ∧ Below w.heap.size w w') := Lib.hid (fun w => nrm_ofz (n := 1) rfl (by omega) (by omega))
  have AD : Hid (∀ va vb w, Nrm w va (n / m) (max L M) → Nrm w vb 1 (max L M) → Calls Tryd.prog 58 #[va, vb] w fun e w' => ∃ v', e = .returned v' ∧ Nrm w' v' (n / m + 1) (max L M + 1) ∧ Below w.heap.size w w') := Lib.hid (fun va vb w h h' => add_num h.num h'.num (by omega))
  have HZ : Hid ((limbs (n % m)).length = 0 ↔ n % m = 0) := Lib.hid ⟨fun h => limbs_eq_nil.1 (List.eq_nil_of_length_eq_zero h), fun h => by rw [h]; rfl⟩
  have HQ : Hid (quo n m up = n / m + (if up && decide (n % m ≠ 0) then 1 else 0)) := Lib.hid rfl
  rw [HQ.out]
  obtain ⟨q, hq⟩ : ∃ q, n / m = q := ⟨_, rfl⟩
  obtain ⟨r, hr⟩ : ∃ r, n % m = r := ⟨_, rfl⟩
  rw [hq] at D AD ⊢
  rw [hr] at D HZ ⊢
  obtain ⟨K, hK⟩ : ∃ K, max L M = K := ⟨_, rfl⟩
  rw [hK] at D AD ON ⊢
  obtain ⟨rl, hrl⟩ : ∃ k, (limbs r).length = k := ⟨_, rfl⟩
  rw [hrl] at D HZ
  clear ha hb hL hM hL2 hm HQ hq hr hK hrl
  have hcase : (up = false) ∨ (up = true ∧ rl = 0) ∨ (up = true ∧ 0 < rl) := by
    cases up
    · exact .inl rfl
    · rcases Nat.eq_zero_or_pos rl with h | h
      · exact .inr (.inl ⟨rfl, h⟩)
      · exact .inr (.inr ⟨rfl, h⟩)
  rcases hcase with rfl | ⟨rfl, h0⟩ | ⟨rfl, h0⟩
  · have e : q + (if (false && decide (r ≠ 0)) = true then 1 else 0) = q := by simp
    rw [e]
    go_enter Tryd.func39, Tryd.ntmps39
    go_wp2_with (go_at_call 47; ((with_reducible refine (D.out).mono ?_); rintro e w1 ⟨vq, p, rr, k, rfl, hv1, rfl, hb1⟩))
    go_ret
    exact ⟨_, rfl, hv1.wider (by omega), hb1⟩
  · have e : q + (if (true && decide (r ≠ 0)) = true then 1 else 0) = q := by simp [HZ.out.1 h0]
    rw [e]
    subst h0
    go_enter Tryd.func39, Tryd.ntmps39
    go_wp2_with (go_at_call 47; ((with_reducible refine (D.out).mono ?_); rintro e w1 ⟨vq, p, rr, k, rfl, hv1, rfl, hb1⟩))
    go_ret
    exact ⟨_, rfl, hv1.wider (by omega), hb1⟩
  · have e : q + (if (true && decide (r ≠ 0)) = true then 1 else 0) = q + 1 := by
      have : r ≠ 0 := fun h => by have := HZ.out.2 h; omega
      simp [this]
    rw [e]
    go_enter Tryd.func39, Tryd.ntmps39
    go_wp2_with (first
      | (go_at_call 47; ((with_reducible refine (D.out).mono ?_); rintro e w1 ⟨vq, p, rr, k, rfl, hv1, rfl, hb1⟩))
      | (go_at_call 28; ((with_reducible refine (ON.out _).mono ?_); rintro e w2 ⟨v2, rfl, hv2, hb2⟩; have hv12 := hv1.keep hb2))
      | (go_at_call 58; ((with_reducible refine (AD.out _ _ _ hv12 hv2).mono ?_); rintro e w3 ⟨v3, rfl, hv3, hb3⟩)))
    go_ret
    exact ⟨_, rfl, hv3, bel2' (bel2' hb1 hb2) hb3⟩

set_option maxHeartbeats 1000000 in
theorem fof_num {n d : Nat} {z : Int} {w : World} (hz : z = (d : Int)) (hd : d ≤ 6) (hn : n < 18446744073709551616) :
    Calls Tryd.prog 19 #[.int .u64 n, .int .i64 z] w fun e w' => ∃ v', e = .returned v' ∧ Nrm w' v' (n * 10 ^ d) 63 ∧ Below w.heap.size w w' := by
  have P := Lib.hid (fun w => power_in d z w hz hd)
  have ON := Lib.hid (fun w => nrm_of (n := n) (L := 2) (w := w) hn (by omega))
  have MU : Hid (∀ va vb w, Nrm w va n 2 → Num w vb (10 ^ d) 61 → Calls Tryd.prog 40 #[va, vb] w fun e w' => ∃ v', e = .returned v' ∧ Nrm w' v' (n * 10 ^ d) 63 ∧ Below w.heap.size w w') := Lib.hid (fun va vb w h h' => mul_num h.num h' (by omega) (by omega))
  obtain ⟨p, hp⟩ : ∃ p, 10 ^ d = p := ⟨_, rfl⟩
  rw [hp] at P MU ⊢
  clear hz hd hn hp
  go_enter Tryd.func19, Tryd.ntmps19
  go_wp2_with (first
    | (go_at_call 38; ((with_reducible refine (P.out _).mono ?_); rintro e w1 ⟨v1, rfl, hv1, hb1⟩))
    | (go_at_call 28; ((with_reducible refine (ON.out _).mono ?_); rintro e w2 ⟨v2, rfl, hv2, hb2⟩; have hv12 := hv1.keep hb2))
    | (go_at_call 40; ((with_reducible refine (MU.out _ _ _ hv2 hv12).mono ?_); rintro e w3 ⟨v3, rfl, hv3, hb3⟩)))
  go_ret
  exact ⟨_, rfl, hv3, bel2' (bel2' hb1 hb2) hb3⟩

set_option maxHeartbeats 1000000 in
theorem fmul_num {va vb : Value} {n m d L : Nat} {up : Bool} {z : Int} {w : World} (ha : Num w va n L) (hb : Num w vb m L) (hL : L ≤ 100) (hL2 : 2 ≤ L) (hz : z = (d : Int)) (hd : d ≤ 6) :
    Calls Tryd.prog 15 #[va, vb, .int .i64 z, .bool up] w fun e w' => ∃ v', e = .returned v' ∧ Nrm w' v' (quo (n * m) (10 ^ d) up) 300 ∧ Below w.heap.size w w' := by
  have P := Lib.hid (fun w => power_in d z w hz hd)
  have MU := Lib.hid (fun w' (h : Below w.heap.size w w') => mul_num (ha.keep h) (hb.keep h) (by omega) (by omega))
  have QU : Hid (∀ va vb w, Nrm w va (n * m) (L + L) → Num w vb (10 ^ d) 61 → Calls Tryd.prog 39 #[va, vb, .bool up] w fun e w' => ∃ v', e = .returned v' ∧ Nrm w' v' (quo (n * m) (10 ^ d) up) 300 ∧ Below w.heap.size w w') := Lib.hid (fun va vb w h h' => (quotient_num h.num h' (by omega) (by omega) (by omega) (Nat.pow_pos (by omega))).mono (by
    rintro e w' ⟨v, rfl, h1, h2⟩
    exact ⟨v, rfl, h1.wider (by omega), h2⟩))
  obtain ⟨p, hp⟩ : ∃ p, 10 ^ d = p := ⟨_, rfl⟩
  obtain ⟨x, hx⟩ : ∃ x, n * m = x := ⟨_, rfl⟩
  rw [hp] at P QU ⊢
  rw [hx] at MU QU ⊢
  clear hz hd hp hx hL hL2 ha hb
  go_enter Tryd.func15, Tryd.ntmps15
  go_wp2_with (first
    | (go_at_call 38; ((with_reducible refine (P.out _).mono ?_); rintro e w1 ⟨v1, rfl, hv1, hb1⟩))
    | (go_at_call 40; ((with_reducible refine (MU.out _ hb1).mono ?_); rintro e w2 ⟨v2, rfl, hv2, hb2⟩; have hv12 := hv1.keep hb2))
    | (go_at_call 39; ((with_reducible refine (QU.out _ _ _ hv2 hv12).mono ?_); rintro e w3 ⟨v3, rfl, hv3, hb3⟩)))
  go_ret
  exact ⟨_, rfl, hv3, bel2' (bel2' hb1 hb2) hb3⟩

set_option maxHeartbeats 1000000 in
theorem fdiv_num {va vb : Value} {n m d L : Nat} {up : Bool} {z : Int} {w : World} (ha : Num w va n L) (hb : Num w vb m L) (hL : L ≤ 100) (hL2 : 2 ≤ L) (hz : z = (d : Int)) (hd : d ≤ 6) (hm : 0 < m) :
    Calls Tryd.prog 17 #[va, vb, .int .i64 z, .bool up] w fun e w' => ∃ v', e = .returned (.tuple #[v', .bool true]) ∧ Nrm w' v' (quo (n * 10 ^ d) m up) 300 ∧ Below w.heap.size w w' := by
  have P := Lib.hid (fun w => power_in d z w hz hd)
  have BI := Lib.hid (fun w' (h : Below w.heap.size w w') => bits_pos_n (hb.keep h) (by omega) hm)
  have MU : Hid (∀ vb w', Below w.heap.size w w' → Num w' vb (10 ^ d) 61 → Calls Tryd.prog 40 #[va, vb] w' fun e w'' => ∃ v', e = .returned v' ∧ Nrm w'' v' (n * 10 ^ d) (L + 61) ∧ Below w'.heap.size w' w'') := Lib.hid (fun vb w' h h' => mul_num (ha.keep h) h' (by omega) (by omega))
  have QU : Hid (∀ va w', Below w.heap.size w w' → Nrm w' va (n * 10 ^ d) (L + 61) → Calls Tryd.prog 39 #[va, vb, .bool up] w' fun e w'' => ∃ v', e = .returned v' ∧ Nrm w'' v' (quo (n * 10 ^ d) m up) 300 ∧ Below w'.heap.size w' w'') := Lib.hid (fun va w' h h' => (quotient_num h'.num (hb.keep h) (by omega) (by omega) (by omega) hm).mono (by
    rintro e w' ⟨v, rfl, h1, h2⟩
    exact ⟨v, rfl, h1.wider (by omega), h2⟩))
  obtain ⟨p, hp⟩ : ∃ p, 10 ^ d = p := ⟨_, rfl⟩
  rw [hp] at P QU MU ⊢
  clear hz hd hp hL hL2 ha hb hm
  go_enter Tryd.func17, Tryd.ntmps17
  go_wp2_with (first
    | (go_at_call 38; ((with_reducible refine (P.out _).mono ?_); rintro e w1 ⟨v1, rfl, hv1, hb1⟩))
    | (go_at_call 44; ((with_reducible refine (BI.out _ hb1).mono ?_); rintro e w2 ⟨k2, rfl, hk2, hb2⟩; have hv12 := hv1.keep hb2; have hB2 := bel2' hb1 hb2))
    | (go_at_call 40; ((with_reducible refine (MU.out _ _ hB2 hv12).mono ?_); rintro e w3 ⟨v3, rfl, hv3, hb3⟩; have hB3 := bel2' hB2 hb3))
    | (go_at_call 39; ((with_reducible refine (QU.out _ _ hB3 hv3).mono ?_); rintro e w4 ⟨v4, rfl, hv4, hb4⟩; have hB4 := bel2' hB3 hb4)))
  go_ret2
  exact ⟨_, rfl, hv4, hB4⟩

set_option maxHeartbeats 1000000 in
theorem fdiv_zero {va vb : Value} {d L : Nat} {up : Bool} {z : Int} {w : World} (hb : Num w vb 0 L) (hL : L ≤ 100) (hz : z = (d : Int)) (hd : d ≤ 6) :
    Calls Tryd.prog 17 #[va, vb, .int .i64 z, .bool up] w fun e w' => e = .returned (.tuple #[.slice none 0 0, .bool false]) ∧ Below w.heap.size w w' := by
  have P := Lib.hid (fun w => power_in d z w hz hd)
  have BI := Lib.hid (fun w' (h : Below w.heap.size w w') => bits_zero_n (hb.keep h) (by omega))
  clear hz hd hL hb
  go_enter Tryd.func17, Tryd.ntmps17
  go_wp2_with (first
    | (go_at_call 38; ((with_reducible refine (P.out _).mono ?_); rintro e w1 ⟨v1, rfl, hv1, hb1⟩))
    | (go_at_call 44; ((with_reducible refine (BI.out _ hb1).mono ?_); rintro e w2 ⟨rfl, hb2⟩; have hB2 := bel2' hb1 hb2)))
  go_ret2
  exact ⟨rfl, hB2⟩

/-! With a number of digits that is not allowed. -/
set_option maxHeartbeats 1000000 in
theorem fof_out {n z : Int} {w : World} (hz : z < 0 ∨ 6 < z) :
    Calls Tryd.prog 19 #[.int .u64 n, .int .i64 z] w fun e w' => e = .returned (.slice none 0 0) ∧ Below w.heap.size w w' := by
  have P := Lib.hid (fun w => power_out z w hz)
  clear hz
  go_enter Tryd.func19, Tryd.ntmps19
  go_wp2_with (go_at_call 38; ((with_reducible refine (P.out _).mono ?_); rintro e w1 ⟨rfl, hb1⟩))
  go_ret
  exact ⟨rfl, hb1⟩
set_option maxHeartbeats 1000000 in
theorem fmul_out {va vb : Value} {up : Bool} {z : Int} {w : World} (hz : z < 0 ∨ 6 < z) :
    Calls Tryd.prog 15 #[va, vb, .int .i64 z, .bool up] w fun e w' => e = .returned (.slice none 0 0) ∧ Below w.heap.size w w' := by
  have P := Lib.hid (fun w => power_out z w hz)
  clear hz
  go_enter Tryd.func15, Tryd.ntmps15
  go_wp2_with (go_at_call 38; ((with_reducible refine (P.out _).mono ?_); rintro e w1 ⟨rfl, hb1⟩))
  go_ret
  exact ⟨rfl, hb1⟩
set_option maxHeartbeats 1000000 in
theorem fdiv_out {va vb : Value} {up : Bool} {z : Int} {w : World} (hz : z < 0 ∨ 6 < z) :
    Calls Tryd.prog 17 #[va, vb, .int .i64 z, .bool up] w fun e w' => e = .returned (.tuple #[.slice none 0 0, .bool false]) ∧ Below w.heap.size w w' := by
  have P := Lib.hid (fun w => power_out z w hz)
  clear hz
  go_enter Tryd.func17, Tryd.ntmps17
  go_wp2_with (go_at_call 38; ((with_reducible refine (P.out _).mono ?_); rintro e w1 ⟨rfl, hb1⟩))
  go_ret2
  exact ⟨rfl, hb1⟩

end Go.Proofs.YtaommeapngbgeaaDoor
