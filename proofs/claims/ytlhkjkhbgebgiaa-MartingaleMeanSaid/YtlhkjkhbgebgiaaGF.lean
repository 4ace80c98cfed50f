import Derived.Test.YtlhkjkhbgebgiaaMB
import Derived.Test.YtlhkjkhbgebgiaaMA
import Derived.Laws.Bits64b
import Derived.IntWalk
namespace Go.Proofs.Ytlhkjkhbgebgiaa
open Go.RowKit Go.Proofs.Kit Go.Proofs.Nums

theorem pow_cast (s : Nat) : (2 : Int) ^ s = ((2 ^ s : Nat) : Int) := by rw [Int.natCast_pow]; rfl

theorem shl_lt {x s : Nat} (hx : x < 4294967296) (hs : s < 32) : x * 2 ^ s < 18446744073709551616 := by
  have h1 : 2 ^ s ≤ 2 ^ 32 := Nat.pow_le_pow_right (by omega) (by omega)
  have h2 : x * 2 ^ s ≤ 4294967295 * 2 ^ 32 := Nat.mul_le_mul (by omega) h1
  omega

set_option maxHeartbeats 4000000 in
theorem left_any (v : Value) (a : List Nat) (s : Nat) (w : World) (ha : NatAt w v a) (hla : a.length ≤ 1000000) (hs : s < 32) :
    Calls Try.prog 71 #[v, .int .i64 s] w fun e w' => ∃ o, e = .returned (.slice (some ⟨w.heap.size, 0, none⟩) (a.length + 1) (a.length + 1)) ∧ OwnNat w' w.heap.size w.heap.size (a.length + 1) (a.length + 1) o ∧ Hid (val o = val a * 2 ^ s) ∧ Below w.heap.size w w' := by
  obtain ⟨p1, c1, rfl⟩ := ha.shape
  have HA := Lib.hid ha
  clear ha
  go_enter Try.func71, Try.ntmps71
  go_wp2_with (at_make; go_must (refine make_any er28 rfl rfl rfl rfl (by omega) (by omega) (by omega) ?_); intro w3 hown3 hb3)
  rw [show ((a.length : Int) + 1).toNat = a.length + 1 by omega] at *
  have hown := OwnNat.made hown3
  clear hown3
  go_loopw [15] (fun i wr => ∃ k : Nat, ∃ o : List Nat, k ≤ a.length ∧ i = .int .i64 k ∧ OwnNat wr w.heap.size w.heap.size (a.length + 1) (a.length + 1) o ∧ Below w.heap.size w wr ∧
      Hid (val o = val (a.take k) * 2 ^ s)) (fun i _ => a.length - (intOf i).toNat)
  case atStart => exact ⟨0, _, by omega, rfl, hown, hb3, Lib.hid (by rw [val_zeros]; simp [val])⟩
  case round =>
    obtain ⟨k, o, hk, rfl, hO, hbel, hP⟩ := hrel
    by_cases hlt : k < a.length
    · rcases (HA.out.keep hbel).cases with ⟨hx0, _⟩ | ⟨_, b1, o1, k1, hv1, hk1, hm1, hbb, hcell1⟩
      · rw [hx0] at hlt; simp at hlt
      simp only [Value.slice.injEq] at hv1
      obtain ⟨rfl, _, rfl⟩ := hv1
      have q1 := hcell1 k hlt
      have hxk := HA.out.2.nth k
      clear hcell1
      have hinv := left_inv HA.out.2 hlt hs hO.1 hP.out
      have hst := left_step HA.out.2 hlt hs hO.1 hP.out
      have hsum := left_sum (x := nth a k) (show s ≤ 32 by omega) hinv.1
      have hor := left_or (x := nth a k) (show s ≤ 32 by omega) hinv.1
      have hhi := left_high (s := s) hxk
      have hsl := shl_lt hxk hs
      have hp2 := pow_lt32 hs
      obtain ⟨X, hX⟩ : ∃ X, nth a k * 2 ^ s = X := ⟨_, rfl⟩
      have hXi : (nth a k : Int) * 2 ^ s = (X : Int) := by rw [pow_cast, ← hX, Int.natCast_mul]
      rw [hX] at hst hsum hor hhi hsl
      have hxo := hO.2.1.nth k
      have hc1 := hO.cell (j := k) (by omega)
      have hc2 := hO.cell (j := k + 1) (by omega)
      have hf1 := hO.free k
      have hf2 := hO.free (k + 1)
      have hput := hO.put k (nth o k + X % 4294967296) hsum
      have hput2 := hput.1.put (k + 1) (X / 4294967296) (by omega)
      have e1 : Go.bits BinOp.or IntKind.u32 (nth o k : Int) ((X : Int) % 4294967296) = ((nth o k + X % 4294967296 : Nat) : Int) := by
        rw [show ((X : Int) % 4294967296) = ((X % 4294967296 : Nat) : Int) by omega, or_u32 _ _ hxo (Nat.mod_lt _ (by omega)), hor]
      have e2 : (X : Int) / 4294967296 % 4294967296 = ((X / 4294967296 : Nat) : Int) := by omega
      have HO := Lib.hid hO
      have HST := Lib.hid hst
      have HPUT := Lib.hid hput
      have HPUT2 := Lib.hid hput2
      clear hO hst hput hput2 hor hinv hX
      go_wp2_with fail
      go_roundw
      case rel =>
        exact ⟨k + 1, _, by omega, by go_num, HPUT2.out.1, (hbel.trans HPUT.out.2).trans HPUT2.out.2, HST⟩
      case measure => simp [intOf] <;> omega
    · obtain rfl : k = a.length := by omega
      have hv : Hid (val o = val a * 2 ^ s) := Lib.hid (by have := hP.out; rw [List.take_length] at this; exact this)
      have HO := Lib.hid hO
      clear hO
      go_wp2_with fail
      go_ret
      exact ⟨o, rfl, HO.out, hv, hbel⟩

end Go.Proofs.Ytlhkjkhbgebgiaa

namespace Go.Proofs.Ytlhkjkhbgebgiaa
open Go.RowKit Go.Proofs.Kit Go.Proofs.Nums

theorem or_hi {x y : Nat} (hx : x < 4294967296) (hy : y < 4294967296) : Go.bits .or .u64 (x : Int) ((y : Int) * 4294967296) = ((x + 4294967296 * y : Nat) : Int) := by
  have h := Nat.two_pow_add_eq_or_of_lt (i := 32) (b := x) (by omega) y
  rw [show ((y : Int) * 4294967296) = ((y * 4294967296 : Nat) : Int) by omega, Go.bits_or_u64_nat _ _ (by omega) (by omega)]
  rw [Nat.or_comm, show y * 4294967296 = 2 ^ 32 * y by omega, ← h]
  congr 1; omega

set_option maxHeartbeats 4000000 in
theorem right_any (v : Value) (a : List Nat) (s : Nat) (w : World) (ha : NatAt w v a) (hla : a.length ≤ 1000000) (hs : s < 32) :
    Calls Try.prog 73 #[v, .int .i64 s] w fun e w' => ∃ v' o, e = .returned v' ∧ NatAt w' v' o ∧ Hid (val o = val a / 2 ^ s ∧ o.length = a.length) ∧ Below w.heap.size w w' := by
  obtain ⟨p1, c1, rfl⟩ := ha.shape
  have HA := Lib.hid ha
  clear ha
  go_enter Try.func73, Try.ntmps73
  go_wp2_with (at_make; go_must (refine make_any er28 rfl rfl rfl rfl (by omega) (by omega) (by omega) ?_); intro w3 hown3 hb3)
  rw [Int.toNat_natCast] at hown3
  have hown := OwnNat.made hown3
  clear hown3
  go_loopw [12] (fun i wr => ∃ k : Nat, ∃ o : List Nat, k ≤ a.length ∧ i = .int .i64 k ∧ OwnNat wr w.heap.size w.heap.size a.length a.length o ∧ Below w.heap.size w wr ∧
      Hid (val (o.take k) = val a / 2 ^ s % 4294967296 ^ k)) (fun i _ => a.length - (intOf i).toNat)
  case atStart => exact ⟨0, _, by omega, rfl, hown, hb3, Lib.hid (by simp [val, Nat.mod_one])⟩
  case round =>
    obtain ⟨k, o, hk, rfl, hO, hbel, hP⟩ := hrel
    by_cases hlt : k < a.length
    · have hx0 := HA.out.2.nth k
      have hx1 := HA.out.2.nth (k + 1)
      have LA := Lib.hid (limb_any _ a k wr (HA.out.keep hbel))
      have LB : Hid (Calls Try.prog 80 #[.slice p1 a.length c1, .int .i64 ((k : Int) + 1)] wr fun e w' => e = .returned (.int .u64 ((nth a (k + 1) : Nat) : Int)) ∧ wr = w') := Lib.hid (limb_any _ a (k + 1) wr (HA.out.keep hbel))
      have hor := or_hi hx0 hx1
      have hcell := hO.cell (j := k) (by omega)
      have hfree := hO.free k
      have hst := right_step (o := o) (s := s) HA.out.2 (by omega) hlt (by rw [hO.1]; exact hlt) hP.out
      obtain ⟨Y, hY⟩ : ∃ Y, nth a k + 4294967296 * nth a (k + 1) = Y := ⟨_, rfl⟩
      have hY64 : Y < 18446744073709551616 := by omega
      rw [hY] at hst hor
      have hp : 0 < 2 ^ s := Nat.pow_pos (by omega)
      have e1 : (Y : Int) / 2 ^ s % 4294967296 = ((Y / 2 ^ s % 4294967296 : Nat) : Int) := by rw [pow_cast, ← Int.natCast_ediv]; omega
      have hput := hO.put k (Y / 2 ^ s % 4294967296) (Nat.mod_lt _ (by omega))
      have HO := Lib.hid hO
      have HST := Lib.hid hst
      have HPUT := Lib.hid hput
      have E1 := Lib.hid e1
      clear hO hst hput hY e1
      go_wp2_with (first
        | (go_at_call 80; ((with_reducible refine LA.out.mono ?_); rintro e w5 ⟨rfl, rfl⟩))
        | (go_at_call 80; ((with_reducible refine LB.out.mono ?_); rintro e w6 ⟨rfl, rfl⟩)))
      go_roundw
      case rel =>
        exact ⟨k + 1, _, by omega, by go_num, HPUT.out.1, hbel.trans HPUT.out.2, HST⟩
      case measure => simp [intOf] <;> omega
    · obtain rfl : k = a.length := by omega
      have hv : Hid (val o = val a / 2 ^ s ∧ o.length = a.length) := Lib.hid ⟨right_end HA.out.2 hO.1 hP.out, hO.1⟩
      have HO := Lib.hid hO
      clear hO
      go_wp2_with fail
      go_ret
      exact ⟨_, o, rfl, HO.out.read, hv, hbel⟩

end Go.Proofs.Ytlhkjkhbgebgiaa

namespace Go.Proofs.Ytlhkjkhbgebgiaa
open Go.RowKit Go.Proofs.Kit Go.Proofs.Nums

theorem cell_drewN {w : World} {d b o : Nat} {v : Value} (h : w.cell? ⟨b, o, none⟩ = some v) : (w.drewN d).cell? ⟨b, o, none⟩ = some v :=
  cell_keep (below_drewN (Below.refl _ _) d) h

/-- What guess finds. -/
def GuessOk (u v : List Nat) (j q : Nat) : Prop := q < 4294967296 ∧ val (u.drop j) < (q + 1) * val v ∧ q * val v ≤ val (u.drop j) + val v

set_option maxRecDepth 1000000 in
set_option maxHeartbeats 4000000 in
theorem guess_any (vu vv : Value) (u v : List Nat) (j : Nat) (w : World) (hu : NatAt w vu u) (hv : NatAt w vv v) (hn : 2 ≤ v.length) (hj : j + v.length < u.length) (hul : u.length ≤ 1000001)
    (htop : 2147483648 ≤ nth v (v.length - 1)) (hz : val (u.drop (j + v.length + 1)) = 0) (hlt : val (u.drop j) < val v * 4294967296) :
    Calls Try.prog 79 #[vu, vv, .int .i64 j] w fun e w' => ∃ q : Nat, e = .returned (.int .u64 q) ∧ Hid (GuessOk u v j q) ∧ ∃ d, w' = w.drewN d := by
  have eV := val_two v hn
  have eU := val_three u j v.length hn hj hz
  have hVl := val_take_lt v hv.2 (v.length - 2) (by omega)
  have hUl := val_take_lt (u.drop j) (hu.2.drop j) (v.length - 2) (by rw [List.length_drop]; omega)
  rcases hu.cases with ⟨h0, _⟩ | ⟨_, b1, o1, k1, rfl, hk1, hm1, hb1, hcell1⟩
  · rw [h0] at hj; simp at hj
  rcases hv.cases with ⟨h0, _⟩ | ⟨_, b2, o2, k2, rfl, hk2, hm2, hb2, hcell2⟩
  · rw [h0] at hn; simp at hn
  have p1 := hcell1 (j + v.length) hj
  have p2 := hcell1 (j + v.length - 1) (by omega)
  have p3 := hcell1 (j + v.length - 2) (by omega)
  have p4 := hcell2 (v.length - 1) (by omega)
  have p5 := hcell2 (v.length - 2) (by omega)
  have l1 := hu.2.nth (j + v.length)
  have l2 := hu.2.nth (j + v.length - 1)
  have l3 := hu.2.nth (j + v.length - 2)
  have l4 := hv.2.nth (v.length - 1)
  have l5 := hv.2.nth (v.length - 2)
  clear hcell1 hcell2 hu hv hz
  obtain ⟨u0, hu0⟩ : ∃ x, nth u (j + v.length) = x := ⟨_, rfl⟩
  obtain ⟨u1, hu1⟩ : ∃ x, nth u (j + v.length - 1) = x := ⟨_, rfl⟩
  obtain ⟨u2, hu2⟩ : ∃ x, nth u (j + v.length - 2) = x := ⟨_, rfl⟩
  obtain ⟨v1, hv1⟩ : ∃ x, nth v (v.length - 1) = x := ⟨_, rfl⟩
  obtain ⟨v2, hv2⟩ : ∃ x, nth v (v.length - 2) = x := ⟨_, rfl⟩
  rw [hu0] at p1 l1 eU
  rw [hu1] at p2 l2 eU
  rw [hu2] at p3 l3 eU
  rw [hv1] at p4 l4 eV htop
  rw [hv2] at p5 l5 eV
  obtain ⟨top, htp⟩ : ∃ top, u0 * 4294967296 + u1 = top := ⟨_, rfl⟩
  rw [htp] at eU
  have htt : top < v1 * 4294967296 + 4294967296 := guess_top l5 hVl (by rw [← eU, ← eV]; exact hlt)
  have hv1p : 0 < v1 := by omega
  have g0 := guess_first (top := top) (v2 := v2) (Vl := val (v.take (v.length - 2))) hv1p l3 hUl
  rw [← eU, ← eV] at g0
  have gl := guess_le htop htt
  have G0 : Hid (val (u.drop j) < (top / v1 + 1) * val v) := Lib.hid g0
  have G1 : Hid (∀ q, 4294967296 ≤ q → val (u.drop j) < (q - 1 + 1) * val v) := Lib.hid fun q hq => guess_big hlt hq
  have G2 : Hid (∀ q r, q * v1 + r = top → r * 4294967296 + u2 < q * v2 → val (u.drop j) < (q - 1 + 1) * val v) := Lib.hid fun q r h1 h2 => by
    have := guess_test (Vl := val (v.take (v.length - 2))) hUl h1 h2
    rw [← eU, ← eV] at this; exact this
  have G3 : Hid (∀ q r, q < 4294967296 → val (u.drop j) < (q + 1) * val v → q * v1 + r = top → q * v2 ≤ r * 4294967296 + u2 → GuessOk u v j q) := Lib.hid fun q r h0 h1 h2 h3 => by
    have := guess_end (Ul := val ((u.drop j).take (v.length - 2))) hVl hv1p (Nat.le_of_lt h0) (guess_left h2 h3)
    rw [← eU, ← eV] at this
    exact ⟨h0, h1, this⟩
  have G4 : Hid (∀ q r, q ≤ 4294967296 → val (u.drop j) < (q + 1) * val v → q * v1 + r = top → 4294967296 ≤ r → GuessOk u v j q) := Lib.hid fun q r h0 h1 h2 h3 => by
    have := guess_end (Ul := val ((u.drop j).take (v.length - 2))) hVl hv1p h0 (guess_break (u2 := u2) h2 h3 l5 h0)
    rw [← eU, ← eV] at this
    exact ⟨guess_lt h2 h3 htt, h1, this⟩
  have hq0 := Nat.div_add_mod top v1
  rw [Nat.mul_comm] at hq0
  have hr0 := Nat.mod_lt top hv1p
  obtain ⟨Q0, hQ0⟩ : ∃ Q0, top / v1 = Q0 := ⟨_, rfl⟩
  obtain ⟨R0, hR0⟩ : ∃ R0, top % v1 = R0 := ⟨_, rfl⟩
  have hdiv : (top : Int) / (v1 : Int) = (Q0 : Int) := by rw [← Int.natCast_ediv, hQ0]
  have hmod : (top : Int) % (v1 : Int) = (R0 : Int) := by rw [← Int.natCast_emod, hR0]
  have hdivt : (top : Int).tdiv (v1 : Int) = (Q0 : Int) := by rw [Int.tdiv_eq_ediv_of_nonneg (by omega)]; exact hdiv
  have hmodt : (top : Int).tmod (v1 : Int) = (R0 : Int) := by rw [Int.tmod_eq_emod_of_nonneg (by omega)]; exact hmod
  have hnz : ((v1 : Int) == 0) = false := by rw [beq_eq_false_iff_ne]; omega
  rw [hQ0] at hq0 gl G0
  rw [hR0] at hq0 hr0
  have HQ0 := Lib.hid hq0
  have w1 : IntKind.i64.wrap ((j : Int) + (v.length : Int)) = ((j + v.length : Nat) : Int) := by rw [IntWalk.i64_in _ (by omega)]; omega
  have w2 : IntKind.i64.wrap (((j + v.length : Nat) : Int) - 1) = ((j + v.length - 1 : Nat) : Int) := by rw [IntWalk.i64_in _ (by omega)]; omega
  have w3 : IntKind.i64.wrap (((j + v.length : Nat) : Int) - 2) = ((j + v.length - 2 : Nat) : Int) := by rw [IntWalk.i64_in _ (by omega)]; omega
  have ht64 : top < 18446744073709551616 := by omega
  have or0 := or_shift (r := u0) l1 l2
  rw [htp] at or0
  clear hQ0 hR0 eU eV hVl hUl hlt htt g0 hq0 htp hu0 hu1 hu2 hv1 hv2
  go_enter Try.func79, Try.ntmps79
  go_wp2_with fail
  go_quiet (fail)
  go_wp2_with fail
  go_quiet (fail)
  go_wp2_with fail
  have hR0b : R0 < 4294967296 := by omega
  clear htop ht64 hr0 w1 w2 p1 p2 p4 or0 hdiv hmod hdivt hmodt hnz
  go_loopw [10, 11] (fun qv rv wr => ∃ q r : Nat, q ≤ 4294967297 ∧ r < 4294967296 ∧ qv = .int .u64 q ∧ rv = .int .u64 r ∧ Hid (q * v1 + r = top) ∧ Hid (val (u.drop j) < (q + 1) * val v) ∧ ∃ d, wr = w.drewN d) (fun qv _ _ => (intOf qv).toNat)
  case atStart => exact ⟨Q0, R0, gl, by omega, rfl, rfl, HQ0, G0, ⟨_, by first | rfl | rw [World.drewN_drewN]⟩⟩
  case round =>
    obtain ⟨q, r, hq, hr, rfl, rfl, hE, hU, ⟨d, rfl⟩⟩ := hrel
    by_cases hqb : 4294967296 ≤ q
    · have hq1 : 1 ≤ q := by omega
      obtain ⟨p, hp⟩ : ∃ p, q - 1 = p := ⟨_, rfl⟩
      have hpi : (q : Int) - 1 = (p : Int) := by omega
      have hN : Hid (val (u.drop j) < (p + 1) * val v) := Lib.hid (by have := G1.out q hqb; rw [hp] at this; exact this)
      have hE2 : Hid (p * v1 + (r + v1) = top) := Lib.hid (by have := hE.out; rw [show q = p + 1 by omega, Nat.add_mul, Nat.one_mul] at this; omega)
      have hd : (4294967296 : Int) ≤ (q : Int) := by omega
      have hpq : Hid (p < q ∧ p ≤ 4294967296) := Lib.hid (by omega)
      clear hqb hp
      go_wp2_with fail
      go_quiet (fail)
      by_cases hbr : (4294967296 : Int) ≤ (r : Int) + (v1 : Int)
      · have HF := Lib.hid (G4.out p (r + v1) hpq.out.2 hN.out hE2.out (by omega))
        go_wp2_with fail
        go_ret
        exact ⟨p, rfl, HF.out, ⟨_, by first | rfl | rw [World.drewN_drewN]⟩⟩
      · obtain ⟨s, hs⟩ : ∃ s, r + v1 = s := ⟨_, rfl⟩
        have hrv : (r : Int) + (v1 : Int) = (s : Int) := by omega
        have hrr : Hid (s < 4294967296) := Lib.hid (by omega)
        have hsd : decide ((4294967296 : Int) ≤ (s : Int)) = false := by simpa using (show (s : Int) < 4294967296 by omega)
        rw [hs] at hE2
        clear hs hbr
        go_wp2_with fail
        go_roundw
        case rel => exact ⟨p, s, by have := hpq.out.2; omega, hrr.out, rfl, rfl, hE2, hN, ⟨_, by first | rfl | rw [World.drewN_drewN]⟩⟩
        case measure => have := hpq.out.1; simp [intOf] <;> omega
    · have HQB := Lib.hid hqb
      have hd : decide ((4294967296 : Int) ≤ (q : Int)) = false := by simpa using (show (q : Int) < 4294967296 by omega)
      obtain ⟨QV, hQV⟩ : ∃ QV, q * v2 = QV := ⟨_, rfl⟩
      have hQVi : (q : Int) * (v2 : Int) = (QV : Int) := by rw [← hQV, Int.natCast_mul]
      have hQVb : QV ≤ 4294967295 * 4294967295 := by rw [← hQV]; exact Nat.mul_le_mul (by omega) (by omega)
      have hmulw : IntKind.u64.wrap ((q : Int) * (v2 : Int)) = (QV : Int) := by rw [hQVi, IntWalk.u64_in _ (by omega)]
      have hor := or_shift (r := r) hr l3
      obtain ⟨RU, hRU⟩ : ∃ RU, r * 4294967296 + u2 = RU := ⟨_, rfl⟩
      rw [hRU] at hor
      by_cases ht : RU < QV
      · have htd : decide (RU < QV) = true := by simpa using ht
        have hq1 : 1 ≤ q := by
          rcases Nat.eq_zero_or_pos q with h | h
          · rw [h, Nat.zero_mul] at hQV; omega
          · exact h
        obtain ⟨p, hp⟩ : ∃ p, q - 1 = p := ⟨_, rfl⟩
        have hpi : (q : Int) - 1 = (p : Int) := by omega
        have hN : Hid (val (u.drop j) < (p + 1) * val v) := Lib.hid (by have := G2.out q r hE.out (by rw [hRU, hQV]; exact ht); rw [hp] at this; exact this)
        have hE2 : Hid (p * v1 + (r + v1) = top) := Lib.hid (by have := hE.out; rw [show q = p + 1 by omega, Nat.add_mul, Nat.one_mul] at this; omega)
        have hpq : Hid (p < q ∧ p ≤ 4294967296) := Lib.hid (by omega)
        clear hqb hp hQV hRU
        go_wp2_with fail
        go_quiet (fail)
        by_cases hbr : (4294967296 : Int) ≤ (r : Int) + (v1 : Int)
        · have HF := Lib.hid (G4.out p (r + v1) hpq.out.2 hN.out hE2.out (by omega))
          go_wp2_with fail
          go_ret
          exact ⟨p, rfl, HF.out, ⟨_, by first | rfl | rw [World.drewN_drewN]⟩⟩
        · obtain ⟨s, hs⟩ : ∃ s, r + v1 = s := ⟨_, rfl⟩
          have hrv : (r : Int) + (v1 : Int) = (s : Int) := by omega
          have hrr : Hid (s < 4294967296) := Lib.hid (by omega)
          have hsd : decide ((4294967296 : Int) ≤ (s : Int)) = false := by simpa using (show (s : Int) < 4294967296 by omega)
          rw [hs] at hE2
          clear hs hbr
          go_wp2_with fail
          go_roundw
          case rel => exact ⟨p, s, by have := hpq.out.2; omega, hrr.out, rfl, rfl, hE2, hN, ⟨_, by first | rfl | rw [World.drewN_drewN]⟩⟩
          case measure => have := hpq.out.1; simp [intOf] <;> omega
      · have htd : decide (RU < QV) = false := by simpa using ht
        have HF := Lib.hid (G3.out q r (by omega) hU.out hE.out (by rw [hRU, hQV]; omega))
        clear hqb hQV hRU
        go_wp2_with fail
        go_quiet (fail)
        go_wp2_with fail
        go_ret
        exact ⟨q, rfl, HF.out, ⟨_, by first | rfl | rw [World.drewN_drewN]⟩⟩

end Go.Proofs.Ytlhkjkhbgebgiaa

namespace Go.Proofs.Ytlhkjkhbgebgiaa
open Go.RowKit Go.Proofs.Kit Go.Proofs.Nums

theorem ownsRow_same {w w' : World} {base size n : Nat} {e : TypeId} {v : Value} {xs : List Value} (h : w.ownsRow base e size v n xs) (hh : ∀ b, v.ownBlock = some b → w'.heap[b]? = w.heap[b]?) : w'.ownsRow base e size v n xs := by
  refine ⟨h.1, ?_⟩
  rcases h.2 with hn | ⟨g, cap, cur, rfl, hbg, hgg, rest⟩
  · exact .inl hn
  · refine .inr ⟨g, cap, cur, rfl, hbg, ?_, rest⟩
    rw [hh g rfl]
    exact hgg

theorem NatAt.put {w : World} {v : Value} {l : List Nat} {g o : Nat} {u : Value} (h : NatAt w v l) (hg : v.ownBlock ≠ some g) : NatAt (w.setCell ⟨g, o, none⟩ u) v l :=
  NatAtSame h fun b hb => Below.heap_setCell w _ u b (by intro e; apply hg; rw [hb, e])

theorem OwnNat.other {w : World} {base g n cap : Nat} {o : List Nat} {g' j : Nat} {u : Value} (h : OwnNat w base g n cap o) (hg : g ≠ g') : OwnNat (w.setCell ⟨g', j, none⟩ u) base g n cap o :=
  ⟨h.1, h.2.1, ownsRow_same h.2.2 fun b hb => Below.heap_setCell w _ u b (by
    simp [Value.ownBlock] at hb
    subst hb
    exact hg)⟩

theorem and_low (P : Nat) (hP : P < 18446744073709551616) : Go.bits .and .u64 (P : Int) 4294967295 = ((P % 4294967296 : Nat) : Int) := by
  have h := bits_mask .u64 64 (by decide) (fun n h0 h1 => by rw [IntKind.wrap_u64]; omega) 32 (by decide) (P : Int) (by omega) (by omega)
  have e : ((2 : Int) ^ 32 - 1) = 4294967295 := by decide
  rw [e] at h
  rw [h]
  omega

theorem msub_lt {q v c : Nat} (hq : q < 4294967296) (hv : v < 4294967296) (hc : c < 4294967296) : q * v + c < 18446744073709551616 ∧ (q * v + c) / 4294967296 < 4294967296 := by
  have h1 : q * v ≤ 4294967295 * 4294967295 := Nat.mul_le_mul (by omega) (by omega)
  constructor <;> omega

theorem own_lt {w : World} {v : Value} {l : List Nat} (h : NatAt w v l) (h0 : 0 < l.length) : ∀ b, v.ownBlock = some b → b < w.heap.size := by
  rcases h.cases with ⟨h1, _⟩ | ⟨_, b, o, k, rfl, _, _, hb, _⟩
  · rw [h1] at h0; simp at h0
  · intro b' hb'
    simp [Value.ownBlock] at hb'
    omega

theorem below_drew {w w' : World} (h : ∃ d, w' = w.drewN d) : Below w.heap.size w w' := by
  obtain ⟨d, rfl⟩ := h; exact below_drewN (Below.refl _ _) d

theorem quiet_limb {va : Value} {a : List Nat} {i n : Nat} {w : World} (h : NatAt w va a) :
    Calls Try.prog 80 #[va, .int .i64 i] (w.drewN n) fun e w' => e = .returned (.int .u64 ((nth a i : Nat) : Int)) ∧ w' = w.drewN n :=
  (limb_any va a i (w.drewN n) (h.keep (below_drewN (Below.refl _ _) n))).mono fun _ _ ⟨h1, h2⟩ => ⟨h1, h2.symm⟩

theorem drop_step {x y : List Nat} {i j z : Nat} (h : y.drop (i + j) = x.drop (i + j)) : (y.set (i + j) z).drop (i + 1 + j) = x.drop (i + 1 + j) := by
  rw [List.drop_set_of_lt (by omega), show i + 1 + j = i + j + 1 by omega]
  have h2 := congrArg (List.drop 1) h
  rw [List.drop_drop, List.drop_drop] at h2
  exact h2

set_option maxRecDepth 1000000 in
set_option maxHeartbeats 8000000 in
theorem long_any (vv : Value) (u v : List Nat) (B g c : Nat) (w : World) (hU : OwnNat w B g u.length c u) (hv : NatAt w vv v) (hg : vv.ownBlock ≠ some g) (hB : B ≤ w.heap.size)
    (hn : 2 ≤ v.length) (hL : v.length < u.length) (hul : u.length ≤ 1000001) (htop : 2147483648 ≤ nth v (v.length - 1)) (hlt : val (u.drop (u.length - v.length)) < val v) :
    Calls Try.prog 72 #[.slice (some ⟨g, 0, none⟩) u.length c, vv] w fun e w' => ∃ v' o u', e = .returned v' ∧ NatAt w' v' o ∧ OwnNat w' B g u.length c u' ∧ Hid (val o * val v + val u' = val u ∧ val u' < val v ∧ o.length ≤ u.length) ∧ Below B w w' := by
  obtain ⟨p2, c2, rfl⟩ := hv.shape
  obtain ⟨n, hnn⟩ : ∃ n, v.length = n := ⟨_, rfl⟩
  obtain ⟨L, hLL⟩ : ∃ L, u.length = L := ⟨_, rfl⟩
  rw [hnn] at hn hL htop hlt hg ⊢
  rw [hLL] at hL hul hU hlt ⊢
  obtain ⟨m, hm⟩ : ∃ m, L - n = m := ⟨_, rfl⟩
  rw [hm] at hlt
  have hmi : (L : Int) - (n : Int) = (m : Int) := by omega
  have HNN := Lib.hid hnn
  have HTOP := Lib.hid htop
  have HLT := Lib.hid hlt
  have HG := Lib.hid hg
  have hgl := hU.lt
  have HU := Lib.hid hU
  have HV := Lib.hid hv
  have hvl := hv.2
  rw [hnn] at HV
  have HVL := Lib.hid hvl
  have hLm : L = m + n := by omega
  have HLm := Lib.hid hLm
  clear hnn hm htop hlt hg hU hv hvl hLL hLm
  go_enter Try.func72, Try.ntmps72
  go_wp2_with (at_make; go_must (refine make_any er28 rfl rfl rfl rfl (by omega) (by omega) (by omega) ?_); intro w3 hown3 hb3)
  rw [Int.toNat_natCast] at hown3
  have hown := OwnNat.made hown3
  have HG2 : Hid ((Value.slice p2 n c2).ownBlock ≠ some w.heap.size) := Lib.hid (fun h => Nat.lt_irrefl _ (own_lt HV.out (by rw [HNN.out]; omega) _ h))
  have hbB : Below B w w3 := hb3.mono hB
  clear hown3
  go_loopw [7] (fun iv wr => ∃ k : Nat, ∃ x o : List Nat, k ≤ m ∧ iv = .int .i64 ((k : Int) - 1) ∧ OwnNat wr B g L c x ∧ OwnNat wr w.heap.size w.heap.size m m o ∧ NatAt wr (.slice p2 n c2) v ∧ Below B w wr ∧
      Hid (val (o.drop k) * val v * 4294967296 ^ k + val x = val u) ∧ Hid (val (x.drop k) < val v)) (fun iv _ => (intOf iv + 1).toNat)
  case atStart => exact ⟨m, u, _, by omega, by go_num, HU.out.keep hb3, hown, HV.out.keep hb3, hbB, Lib.hid (by rw [List.drop_of_length_le (by simp)]; simp [val]), HLT⟩
  case round =>
    obtain ⟨k, x, o, hk, rfl, hX, hO, hv, hbel, hP, hR⟩ := hrel
    by_cases h0 : 0 < k
    · obtain ⟨j, rfl⟩ : ∃ j, k = j + 1 := ⟨k - 1, by omega⟩
      rw [show ((j + 1 : Nat) : Int) - 1 = (j : Int) by omega]
      have hLm1 : L ≤ m + n := Nat.le_of_eq HLm.out
      have hLm2 : m + n ≤ L := Nat.le_of_eq HLm.out.symm
      have HXL := Lib.hid hX.1
      have HXLim := Lib.hid hX.2.1
      have hzz : Hid (val (x.drop (j + n + 1)) = 0) := Lib.hid (by
        have := long_zero (u := x) (k := j + 1) HVL.out (by rw [HNN.out, HXL.out]; omega) hR.out
        rw [HNN.out, show j + 1 + n = j + n + 1 by omega] at this; exact this)
      have hwin : Hid (val (x.drop j) < val v * 4294967296) := Lib.hid (long_window HXLim.out (by rw [HXL.out]; omega) hR.out)
      have G := guess_any _ _ x v j wr hX.read hv (by rw [HNN.out]; exact hn) (by rw [HNN.out, HXL.out]; omega) (by rw [HXL.out]; exact hul) (by rw [HNN.out]; exact HTOP.out) (by rw [HNN.out]; exact hzz.out) hwin.out
      have HGU := Lib.hid G
      have HX := Lib.hid hX
      have HO := Lib.hid hO
      have HVR := Lib.hid hv
      clear G hX hO hv
      go_wp2_with (go_at_call 79; ((with_reducible refine HGU.out.mono ?_); rintro e w4 ⟨q, rfl, hq, hd⟩; have hb4 := below_drew hd; clear hd))
      clear HGU
      have hql := hq.out.1
      have X4 := HX.out.keep hb4
      have O4 := HO.out.keep hb4
      have V4 := HVR.out.keep hb4
      have B4 := hbel.trans (hb4.mono (Nat.le_trans hB (by have := hbel.size; exact this)))
      clear HX HO HVR hb4
      go_loopw [9, 10, 38] (fun bv cv iv ws => ∃ i cc bo : Nat, ∃ y : List Nat, i ≤ n + 1 ∧ cc < 4294967296 ∧ bo ≤ 1 ∧ iv = .int .i64 i ∧ cv = .int .u64 cc ∧ bv = .int .u64 bo ∧ OwnNat ws B g L c y ∧ OwnNat ws w.heap.size w.heap.size m m o ∧ NatAt ws (.slice p2 n c2) v ∧ Below B w ws ∧
          Hid (val y + 4294967296 ^ j * (q * val (v.take i)) = val x + 4294967296 ^ (i + j) * (cc + bo)) ∧ Hid (n < i → cc = 0) ∧ Hid (y.drop (i + j) = x.drop (i + j))) (fun _ _ iv _ => n + 1 - (intOf iv).toNat)
      case atStart => exact ⟨0, 0, 0, x, by omega, by omega, by omega, rfl, rfl, rfl, X4, O4, V4, B4, Lib.hid (by simp [val]), Lib.hid (fun h => absurd h (by omega)), Lib.hid rfl⟩
      case round =>
        obtain ⟨i, cc, bo, y, hi, hcc, hbo, rfl, rfl, rfl, hY, hO, hv, hbs, hE, hC, hD⟩ := hrel
        by_cases hin : i < n + 1
        · have hVi := HVL.out.nth i
          have hYi := hY.2.1.nth (i + j)
          have LB := Lib.hid (limb_any _ v i wr hv)
          obtain ⟨P, hPP⟩ : ∃ P, q * nth v i + cc = P := ⟨_, rfl⟩
          obtain ⟨hP64, hPH⟩ := msub_lt hql hVi hcc
          rw [hPP] at hP64 hPH
          obtain ⟨QV, hQV⟩ : ∃ QV, q * nth v i = QV := ⟨_, rfl⟩
          have hQVi : (q : Int) * (nth v i : Int) = (QV : Int) := by rw [← hQV, Int.natCast_mul]
          have hPi : (QV : Int) + (cc : Int) = (P : Int) := by omega
          obtain ⟨PL, hPL⟩ : ∃ PL, P % 4294967296 = PL := ⟨_, rfl⟩
          obtain ⟨PH, hPHH⟩ : ∃ PH, P / 4294967296 = PH := ⟨_, rfl⟩
          have hand := and_low P hP64
          rw [hPL] at hand
          have hshr : (P : Int) / 4294967296 = (PH : Int) := by omega
          rw [hPHH] at hPH
          have hPLb : PL < 4294967296 := by omega
          have hsub1 : 0 ≤ 4294967296 + (nth y (i + j) : Int) - (PL : Int) := by omega
          have hsub2 : 0 ≤ 4294967296 + (nth y (i + j) : Int) - (PL : Int) - (bo : Int) := by omega
          have hsub3 : (4294967296 + (nth y (i + j) : Int) - (PL : Int) - (bo : Int)) / 4294967296 ≤ 1 := by omega
          have hsub4 : 0 ≤ (4294967296 + (nth y (i + j) : Int) - (PL : Int) - (bo : Int)) / 4294967296 := by omega
          have hcell := hY.cell (j := i + j) (by omega)
          have hfree := hY.free (i + j)
          have hC0 : Hid (n < i + 1 → PH = 0) := Lib.hid (fun h => by
            have hv0 : nth v i = 0 := nth_ge (by rw [HNN.out]; omega)
            rw [hv0, Nat.mul_zero] at hQV
            omega)
          obtain ⟨t, ht⟩ : ∃ t, t + PL + bo = 4294967296 + nth y (i + j) := ⟨4294967296 + nth y (i + j) - PL - bo, by omega⟩
          have hst : Hid (val (y.set (i + j) (t % 4294967296)) + 4294967296 ^ j * (q * val (v.take (i + 1))) = val x + 4294967296 ^ (i + 1 + j) * (PH + (1 - t / 4294967296))) := Lib.hid (by
            rw [← hPHH]
            exact msub_step (by rw [hY.1]; omega) hPP.symm (by rw [hPL]; exact ht) (by omega) hE.out)
          have hdr : Hid ((y.set (i + j) (t % 4294967296)).drop (i + 1 + j) = x.drop (i + 1 + j)) := Lib.hid (drop_step hD.out)
          have HPUT := Lib.hid (hY.put (i + j) (t % 4294967296) (Nat.mod_lt _ (by omega)))
          have HOO : Hid (OwnNat (wr.setCell ⟨g, i + j, none⟩ (.int .u32 ((t % 4294967296 : Nat) : Int))) w.heap.size w.heap.size m m o) := Lib.hid (hO.other (by omega))
          have HVV : Hid (NatAt (wr.setCell ⟨g, i + j, none⟩ (.int .u32 ((t % 4294967296 : Nat) : Int))) (.slice p2 n c2) v) := Lib.hid (hv.put HG.out)
          have HT := Lib.hid ht
          clear hY hO hv hQV hPL hPHH ht hPP hE hC hD
          go_wp2_with (go_at_call 80; ((with_reducible refine LB.out.mono ?_); rintro e w5 ⟨rfl, rfl⟩))
          have ht := HT.out
          have e1 : (4294967296 + (nth y (i + j) : Int) - (PL : Int) - (bo : Int)) % 4294967296 = ((t % 4294967296 : Nat) : Int) := by omega
          have e2 : 1 - (4294967296 + (nth y (i + j) : Int) - (PL : Int) - (bo : Int)) / 4294967296 = ((1 - t / 4294967296 : Nat) : Int) := by omega
          go_roundw
          case rel =>
            rw [e1, e2]
            exact ⟨i + 1, PH, 1 - t / 4294967296, _, by omega, hPH, by omega, by go_num, rfl, rfl, HPUT.out.1, HOO.out, HVV.out, hbs.trans HPUT.out.2, hst, hC0, hdr⟩
          case measure => simp [intOf] <;> omega
        · obtain rfl : i = n + 1 := by omega
          have hc0 : cc = 0 := hC.out (by omega)
          subst hc0
          have hE' : Hid (val y + 4294967296 ^ j * (q * val v) = val x + 4294967296 ^ (n + 1 + j) * bo) := Lib.hid (by
            have := hE.out
            rw [List.take_of_length_le (by rw [HNN.out]; omega), Nat.zero_add] at this; exact this)
          have hzy : Hid (val (y.drop (j + n + 1)) = 0) := Lib.hid (by
            have := hD.out
            rw [show n + 1 + j = j + n + 1 by omega] at this
            rw [this]; exact hzz.out)
          have HYL := Lib.hid hY.1
          have HYLim := Lib.hid hY.2.1
          have hcell := hO.cell (j := j) (by omega)
          have hfree := hO.free j
          clear hE hC hD
          have hbo' : bo = 0 ∨ bo = 1 := by omega
          rcases hbo' with rfl | rfl
          · have hE2 : Hid (val y + 4294967296 ^ j * (q * val v) = val x) := Lib.hid (by have := hE'.out; rw [Nat.mul_zero, Nat.add_zero] at this; exact this)
            have hlt := long_sub HYLim.out HXLim.out (by rw [HYL.out, HXL.out]) (by rw [HXL.out]; omega) hE2.out hq.out.2.1
            have HLT2 := Lib.hid hlt
            have hdg := long_digit (o := o) (by rw [hO.1]; omega) hP.out hE2.out
            have HDG := Lib.hid hdg
            have HPUT := Lib.hid (hO.put j q hql)
            have HYY : Hid (OwnNat (wr.setCell ⟨w.heap.size, j, none⟩ (.int .u32 (q : Int))) B g L c y) := Lib.hid (hY.other (by omega))
            have HVV : Hid (NatAt (wr.setCell ⟨w.heap.size, j, none⟩ (.int .u32 (q : Int))) (.slice p2 n c2) v) := Lib.hid (hv.put HG2.out)
            clear hlt hdg hY hO hv hE'
            go_wp2_with fail
            go_roundw
            case rel => exact ⟨j, y, o.set j q, by omega, by go_num, HYY.out, HPUT.out.1, HVV.out, hbs.trans (HPUT.out.2.mono hB), HDG, HLT2⟩
            case measure => simp [intOf] <;> omega
          · have hE1 : Hid (val y + 4294967296 ^ j * (q * val v) = val x + 4294967296 ^ (n + 1 + j)) := Lib.hid (by have := hE'.out; rw [Nat.mul_one] at this; exact this)
            have hbr := Lib.hid (long_borrow HYLim.out HXLim.out (by rw [HYL.out, HXL.out]) (by rw [HXL.out]; omega) hzy.out hE1.out)
            have hq1 : 1 ≤ q := by
              rcases Nat.eq_zero_or_pos q with h | h
              · have := hbr.out.1; rw [h, Nat.zero_mul] at this; omega
              · exact h
            obtain ⟨q1, hq1'⟩ : ∃ q1, q - 1 = q1 := ⟨_, rfl⟩
            have hq1i : (q : Int) - 1 = (q1 : Int) := by omega
            have hq1l : q1 < 4294967296 := by omega
            have HQ1 := Lib.hid hq1'
            have HY := Lib.hid hY
            have HO := Lib.hid hO
            have HVV := Lib.hid hv
            clear hY hO hv hE' hq1' hcell hfree
            go_wp2_with fail
            go_loopw [10, 80] (fun cv iv ws => ∃ i cc : Nat, ∃ z : List Nat, i ≤ n + 1 ∧ cc ≤ 1 ∧ iv = .int .i64 i ∧ cv = .int .u64 cc ∧ OwnNat ws B g L c z ∧ OwnNat ws w.heap.size w.heap.size m m o ∧ NatAt ws (.slice p2 n c2) v ∧ Below B w ws ∧
                Hid (val z + 4294967296 ^ (i + j) * cc = val y + 4294967296 ^ j * val (v.take i)) ∧ Hid (z.drop (i + j) = y.drop (i + j))) (fun _ iv _ => n + 1 - (intOf iv).toNat)
            case atStart => exact ⟨0, 0, y, by omega, by omega, rfl, rfl, HY.out, HO.out, HVV.out, hbs, Lib.hid (by simp [val]), Lib.hid rfl⟩
            case round =>
              obtain ⟨i, cc, z, hi, hcc, rfl, rfl, hZ, hO, hv, hbz, hE, hD⟩ := hrel
              by_cases hin : i < n + 1
              · have hVi := HVL.out.nth i
                have hZi := hZ.2.1.nth (i + j)
                obtain ⟨t, ht⟩ : ∃ t, nth z (i + j) + nth v i + cc = t := ⟨_, rfl⟩
                have hst : Hid (val (z.set (i + j) (t % 4294967296)) + 4294967296 ^ (i + 1 + j) * (t / 4294967296) = val y + 4294967296 ^ j * val (v.take (i + 1))) := Lib.hid (addb_step (by rw [hZ.1]; omega) ht.symm hE.out)
                have hdr : Hid ((z.set (i + j) (t % 4294967296)).drop (i + 1 + j) = y.drop (i + 1 + j)) := Lib.hid (drop_step hD.out)
                have hcell := hZ.cell (j := i + j) (by omega)
                have hfree := hZ.free (i + j)
                have w1 : IntKind.i64.wrap ((i : Int) + (j : Int)) = ((i + j : Nat) : Int) := by rw [IntWalk.i64_in _ (by omega)]; omega
                have w2 : IntKind.u64.wrap ((nth z (i + j) : Int) + (nth v i : Int)) = (nth z (i + j) : Int) + (nth v i : Int) := IntWalk.u64_in _ (by omega)
                have w3 : IntKind.u64.wrap ((nth z (i + j) : Int) + (nth v i : Int) + (cc : Int)) = (t : Int) := by rw [IntWalk.u64_in _ (by omega)]; omega
                have HZ := Lib.hid hZ
                have HO := Lib.hid hO
                have HVV := Lib.hid hv
                have HT := Lib.hid ht
                clear hZ hO hv hE hD ht
                go_wp2_with fail
                go_quiet ((go_at_call 80; exact Calls.quiet_of_same (quiet_limb HVV.out)))
                go_wp2_with fail
                have hZ2 := HZ.out.keep (below_drewN (Below.refl _ _) nq)
                have HPUT := Lib.hid (hZ2.put (i + j) (t % 4294967296) (Nat.mod_lt _ (by omega)))
                have HOO : Hid (OwnNat ((wr.drewN nq).setCell ⟨g, i + j, none⟩ (.int .u32 ((t % 4294967296 : Nat) : Int))) w.heap.size w.heap.size m m o) := Lib.hid ((HO.out.keep (below_drewN (Below.refl _ _) nq)).other (by omega))
                have HVW : Hid (NatAt ((wr.drewN nq).setCell ⟨g, i + j, none⟩ (.int .u32 ((t % 4294967296 : Nat) : Int))) (.slice p2 n c2) v) := Lib.hid ((HVV.out.keep (below_drewN (Below.refl _ _) nq)).put HG.out)
                have htl := HT.out
                clear hZ2
                go_roundw
                case rel => exact ⟨i + 1, t / 4294967296, _, by omega, by omega, by go_num, rfl, HPUT.out.1, HOO.out, HVW.out, (below_drewN hbz nq).trans HPUT.out.2, hst, hdr⟩
                case measure => simp [intOf] <;> omega
              · obtain rfl : i = n + 1 := by omega
                have hE' : Hid (val z + 4294967296 ^ (n + 1 + j) * cc = val y + 4294967296 ^ j * val v) := Lib.hid (by
                  have := hE.out
                  rw [List.take_of_length_le (by rw [HNN.out]; omega)] at this; exact this)
                have hzz2 : Hid (val (z.drop (j + n + 1)) = 0) := Lib.hid (by
                  have := hD.out
                  rw [show n + 1 + j = j + n + 1 by omega] at this
                  rw [this]; exact hzy.out)
                have hbk := long_back hZ.2.1 HYLim.out (by rw [HYL.out, HXL.out]) (by rw [hZ.1, HXL.out]) (by rw [HXL.out]; omega) hzz2.out hbr.out hE1.out hq.out.2.2 hcc hE'.out
                rw [HQ1.out] at hbk
                have HBK := Lib.hid hbk
                have HDG := Lib.hid (long_digit (o := o) (by rw [hO.1]; omega) hP.out hbk.2.1)
                have hcell := hO.cell (j := j) (by omega)
                have hfree := hO.free j
                have HPUT := Lib.hid (hO.put j q1 hq1l)
                have HZZ : Hid (OwnNat (wr.setCell ⟨w.heap.size, j, none⟩ (.int .u32 (q1 : Int))) B g L c z) := Lib.hid (hZ.other (by omega))
                have HVW : Hid (NatAt (wr.setCell ⟨w.heap.size, j, none⟩ (.int .u32 (q1 : Int))) (.slice p2 n c2) v) := Lib.hid (hv.put HG2.out)
                clear hZ hO hv hE hD hbk hin hE'
                go_wp2_with fail
                go_roundw
                case rel => exact ⟨j, z, o.set j q1, by omega, by go_num, HZZ.out, HPUT.out.1, HVW.out, hbz.trans (HPUT.out.2.mono hB), HDG, Lib.hid HBK.out.2.2⟩
                case measure => simp [intOf] <;> omega
    · obtain rfl : k = 0 := by omega
      have hF : Hid (val o * val v + val x = val u ∧ val x < val v ∧ o.length ≤ L) := Lib.hid (by
        have h1 := hP.out
        have h2 := hR.out
        rw [List.drop_zero, Nat.pow_zero, Nat.mul_one] at h1
        rw [List.drop_zero] at h2
        exact ⟨h1, h2, by rw [hO.1]; have := HLm.out; omega⟩)
      have HX := Lib.hid hX
      have HO := Lib.hid hO
      clear hX hO hv hP hR
      go_wp2_with fail
      go_ret
      exact ⟨_, o, x, rfl, HO.out.read, HX.out, hF, hbel⟩

end Go.Proofs.Ytlhkjkhbgebgiaa
