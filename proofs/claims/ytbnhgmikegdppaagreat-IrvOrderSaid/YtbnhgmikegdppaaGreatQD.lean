/- Contracts and plain facts, part 4: GF, MV, GO, GE. No condition beyond those that each theorem states. -/
import Derived.Test.YtbnhgmikegdppaaGreatQC
import Derived.Laws.Bits64b
import Derived.IntWalk
import Derived.ProofKit
import Derived.OpenShut
import Derived.ChangeSlices
import Derived.WideShapes
namespace Go.Proofs.YtbnhgmikegdppaaGreat
open Go.RowKit Go.Proofs.Kit Go.Proofs.Nums

theorem pow_cast (s : Nat) : (2 : Int) ^ s = ((2 ^ s : Nat) : Int) := by rw [Int.natCast_pow]; rfl

theorem shl_lt {x s : Nat} (hx : x < 4294967296) (hs : s < 32) : x * 2 ^ s < 18446744073709551616 := by
  have h1 : 2 ^ s ≤ 2 ^ 32 := Nat.pow_le_pow_right (by omega) (by omega)
  have h2 : x * 2 ^ s ≤ 4294967295 * 2 ^ 32 := Nat.mul_le_mul (by omega) h1
  omega

set_option maxHeartbeats 4000000 in
theorem left_any (v : Value) (a : List Nat) (s : Nat) (w : World) (ha : NatAt w v a) (hla : a.length ≤ 1000000) (hs : s < 32) :
    Calls Tryz.prog 102 #[v, .int .i64 s] w fun e w' => ∃ o, e = .returned (.slice (some ⟨w.heap.size, 0, none⟩) (a.length + 1) (a.length + 1)) ∧ OwnNat w' w.heap.size w.heap.size (a.length + 1) (a.length + 1) o ∧ Hid (val o = val a * 2 ^ s) ∧ Below w.heap.size w w' := by
  obtain ⟨p1, c1, rfl⟩ := ha.shape
  have HA := Lib.hid ha
  clear ha
  go_enter Tryz.func102, Tryz.ntmps102
  go_wp2_with (at_make; go_must (refine make_any er49 rfl rfl rfl rfl (by omega) (by omega) (by omega) ?_); intro w3 hown3 hb3)
  rw [show ((a.length : Int) + 1).toNat = a.length + 1 by omega] at *
  have hown := OwnNat.made hown3
  clear hown3
  go_loopw [15] (fun i wr => ∃ k : Nat, ∃ o : List Nat, k ≤ a.length ∧ i = .int .i64 k ∧ OwnNat wr w.heap.size w.heap.size (a.length + 1) (a.length + 1) o ∧ Below w.heap.size w wr ∧
      Hid (val o = val (a.take k) * 2 ^ s)) (fun i _ => a.length - (intOf i).toNat)
  case atStart => exact ⟨0, _, by omega, rfl, hown, hb3, Lib.hid (by rw [val_zeros]; simp [val])⟩
  case round =>
    obtain ⟨k, o, hk, rfl, hO, hbel, hP⟩ := hrel
    by_cases hlt : k < a.length
    · rcases (HA.out.keep hbel).cases with ⟨hx0, _⟩ | ⟨_, b1, o1, k1, hv1, hk1, hm1, hbb, hcell1⟩
      · rw [hx0] at hlt; simp at hlt
      simp only [Value.slice.injEq] at hv1
      obtain ⟨rfl, _, rfl⟩ := hv1
      have q1 := hcell1 k hlt
      have hxk := HA.out.2.nth k
      clear hcell1
      have hinv := left_inv HA.out.2 hlt hs hO.1 hP.out
      have hst := left_step HA.out.2 hlt hs hO.1 hP.out
      have hsum := left_sum (x := nth a k) (show s ≤ 32 by omega) hinv.1
      have hor := left_or (x := nth a k) (show s ≤ 32 by omega) hinv.1
      have hhi := left_high (s := s) hxk
      have hsl := shl_lt hxk hs
      have hp2 := pow_lt32 hs
      obtain ⟨X, hX⟩ : ∃ X, nth a k * 2 ^ s = X := ⟨_, rfl⟩
      have hXi : (nth a k : Int) * 2 ^ s = (X : Int) := by rw [pow_cast, ← hX, Int.natCast_mul]
      rw [hX] at hst hsum hor hhi hsl
      have hxo := hO.2.1.nth k
      have hc1 := hO.cell (j := k) (by omega)
      have hc2 := hO.cell (j := k + 1) (by omega)
      have hf1 := hO.free k
      have hf2 := hO.free (k + 1)
      have hput := hO.put k (nth o k + X % 4294967296) hsum
      have hput2 := hput.1.put (k + 1) (X / 4294967296) (by omega)
      have e1 : Go.bits BinOp.or IntKind.u32 (nth o k : Int) ((X : Int) % 4294967296) = ((nth o k + X % 4294967296 : Nat) : Int) := by
        rw [show ((X : Int) % 4294967296) = ((X % 4294967296 : Nat) : Int) by omega, or_u32 _ _ hxo (Nat.mod_lt _ (by omega)), hor]
      have e2 : (X : Int) / 4294967296 % 4294967296 = ((X / 4294967296 : Nat) : Int) := by omega
      have HO := Lib.hid hO
      have HST := Lib.hid hst
      have HPUT := Lib.hid hput
      have HPUT2 := Lib.hid hput2
      clear hO hst hput hput2 hor hinv hX
      go_wp2_with fail
      go_roundw
      case rel =>
        exact ⟨k + 1, _, by omega, by go_num, HPUT2.out.1, (hbel.trans HPUT.out.2).trans HPUT2.out.2, HST⟩
      case measure => simp [intOf] <;> omega
    · obtain rfl : k = a.length := by omega
      have hv : Hid (val o = val a * 2 ^ s) := Lib.hid (by have := hP.out; rw [List.take_length] at this; exact this)
      have HO := Lib.hid hO
      clear hO
      go_wp2_with fail
      go_ret
      exact ⟨o, rfl, HO.out, hv, hbel⟩

end Go.Proofs.YtbnhgmikegdppaaGreat

namespace Go.Proofs.YtbnhgmikegdppaaGreat
open Go.RowKit Go.Proofs.Kit Go.Proofs.Nums

theorem or_hi {x y : Nat} (hx : x < 4294967296) (hy : y < 4294967296) : Go.bits .or .u64 (x : Int) ((y : Int) * 4294967296) = ((x + 4294967296 * y : Nat) : Int) := by
  have h := Nat.two_pow_add_eq_or_of_lt (i := 32) (b := x) (by omega) y
  rw [show ((y : Int) * 4294967296) = ((y * 4294967296 : Nat) : Int) by omega, Go.bits_or_u64_nat _ _ (by omega) (by omega)]
  rw [Nat.or_comm, show y * 4294967296 = 2 ^ 32 * y by omega, ← h]
  congr 1; omega

set_option maxHeartbeats 4000000 in
theorem right_any (v : Value) (a : List Nat) (s : Nat) (w : World) (ha : NatAt w v a) (hla : a.length ≤ 1000000) (hs : s < 32) :
    Calls Tryz.prog 104 #[v, .int .i64 s] w fun e w' => ∃ v' o, e = .returned v' ∧ NatAt w' v' o ∧ Hid (val o = val a / 2 ^ s ∧ o.length = a.length) ∧ Below w.heap.size w w' := by
  obtain ⟨p1, c1, rfl⟩ := ha.shape
  have HA := Lib.hid ha
  clear ha
  go_enter Tryz.func104, Tryz.ntmps104
  go_wp2_with (at_make; go_must (refine make_any er49 rfl rfl rfl rfl (by omega) (by omega) (by omega) ?_); intro w3 hown3 hb3)
  rw [Int.toNat_natCast] at hown3
  have hown := OwnNat.made hown3
  clear hown3
  go_loopw [12] (fun i wr => ∃ k : Nat, ∃ o : List Nat, k ≤ a.length ∧ i = .int .i64 k ∧ OwnNat wr w.heap.size w.heap.size a.length a.length o ∧ Below w.heap.size w wr ∧
      Hid (val (o.take k) = val a / 2 ^ s % 4294967296 ^ k)) (fun i _ => a.length - (intOf i).toNat)
  case atStart => exact ⟨0, _, by omega, rfl, hown, hb3, Lib.hid (by simp [val, Nat.mod_one])⟩
  case round =>
    obtain ⟨k, o, hk, rfl, hO, hbel, hP⟩ := hrel
    by_cases hlt : k < a.length
    · have hx0 := HA.out.2.nth k
      have hx1 := HA.out.2.nth (k + 1)
      have LA := Lib.hid (limb_any _ a k wr (HA.out.keep hbel))
      have LB : Hid (Calls Tryz.prog 111 #[.slice p1 a.length c1, .int .i64 ((k : Int) + 1)] wr fun e w' => e = .returned (.int .u64 ((nth a (k + 1) : Nat) : Int)) ∧ wr = w') := Lib.hid (limb_any _ a (k + 1) wr (HA.out.keep hbel))
      have hor := or_hi hx0 hx1
      have hcell := hO.cell (j := k) (by omega)
      have hfree := hO.free k
      have hst := right_step (o := o) (s := s) HA.out.2 (by omega) hlt (by rw [hO.1]; exact hlt) hP.out
      obtain ⟨Y, hY⟩ : ∃ Y, nth a k + 4294967296 * nth a (k + 1) = Y := ⟨_, rfl⟩
      have hY64 : Y < 18446744073709551616 := by omega
      rw [hY] at hst hor
      have hp : 0 < 2 ^ s := Nat.pow_pos (by omega)
      have e1 : (Y : Int) / 2 ^ s % 4294967296 = ((Y / 2 ^ s % 4294967296 : Nat) : Int) := by rw [pow_cast, ← Int.natCast_ediv]; omega
      have hput := hO.put k (Y / 2 ^ s % 4294967296) (Nat.mod_lt _ (by omega))
      have HO := Lib.hid hO
      have HST := Lib.hid hst
      have HPUT := Lib.hid hput
      have E1 := Lib.hid e1
      clear hO hst hput hY e1
      go_wp2_with (first
        | (go_at_call 111; ((with_reducible refine LA.out.mono ?_); rintro e w5 ⟨rfl, rfl⟩))
        | (go_at_call 111; ((with_reducible refine LB.out.mono ?_); rintro e w6 ⟨rfl, rfl⟩)))
      go_roundw
      case rel =>
        exact ⟨k + 1, _, by omega, by go_num, HPUT.out.1, hbel.trans HPUT.out.2, HST⟩
      case measure => simp [intOf] <;> omega
    · obtain rfl : k = a.length := by omega
      have hv : Hid (val o = val a / 2 ^ s ∧ o.length = a.length) := Lib.hid ⟨right_end HA.out.2 hO.1 hP.out, hO.1⟩
      have HO := Lib.hid hO
      clear hO
      go_wp2_with fail
      go_ret
      exact ⟨_, o, rfl, HO.out.read, hv, hbel⟩

end Go.Proofs.YtbnhgmikegdppaaGreat

namespace Go.Proofs.YtbnhgmikegdppaaGreat
open Go.RowKit Go.Proofs.Kit Go.Proofs.Nums

theorem cell_drewN {w : World} {d b o : Nat} {v : Value} (h : w.cell? ⟨b, o, none⟩ = some v) : (w.drewN d).cell? ⟨b, o, none⟩ = some v :=
  cell_keep (below_drewN (Below.refl _ _) d) h

/-- What guess finds. -/
def GuessOk (u v : List Nat) (j q : Nat) : Prop := q < 4294967296 ∧ val (u.drop j) < (q + 1) * val v ∧ q * val v ≤ val (u.drop j) + val v

set_option maxRecDepth 1000000 in
set_option maxHeartbeats 4000000 in
theorem guess_any (vu vv : Value) (u v : List Nat) (j : Nat) (w : World) (hu : NatAt w vu u) (hv : NatAt w vv v) (hn : 2 ≤ v.length) (hj : j + v.length < u.length) (hul : u.length ≤ 1000001)
    (htop : 2147483648 ≤ nth v (v.length - 1)) (hz : val (u.drop (j + v.length + 1)) = 0) (hlt : val (u.drop j) < val v * 4294967296) :
    Calls Tryz.prog 110 #[vu, vv, .int .i64 j] w fun e w' => ∃ q : Nat, e = .returned (.int .u64 q) ∧ Hid (GuessOk u v j q) ∧ ∃ d, w' = w.drewN d := by
  have eV := val_two v hn
  have eU := val_three u j v.length hn hj hz
  have hVl := val_take_lt v hv.2 (v.length - 2) (by omega)
  have hUl := val_take_lt (u.drop j) (hu.2.drop j) (v.length - 2) (by rw [List.length_drop]; omega)
  rcases hu.cases with ⟨h0, _⟩ | ⟨_, b1, o1, k1, rfl, hk1, hm1, hb1, hcell1⟩
  · rw [h0] at hj; simp at hj
  rcases hv.cases with ⟨h0, _⟩ | ⟨_, b2, o2, k2, rfl, hk2, hm2, hb2, hcell2⟩
  · rw [h0] at hn; simp at hn
  have p1 := hcell1 (j + v.length) hj
  have p2 := hcell1 (j + v.length - 1) (by omega)
  have p3 := hcell1 (j + v.length - 2) (by omega)
  have p4 := hcell2 (v.length - 1) (by omega)
  have p5 := hcell2 (v.length - 2) (by omega)
  have l1 := hu.2.nth (j + v.length)
  have l2 := hu.2.nth (j + v.length - 1)
  have l3 := hu.2.nth (j + v.length - 2)
  have l4 := hv.2.nth (v.length - 1)
  have l5 := hv.2.nth (v.length - 2)
  clear hcell1 hcell2 hu hv hz
  obtain ⟨u0, hu0⟩ : ∃ x, nth u (j + v.length) = x := ⟨_, rfl⟩
  obtain ⟨u1, hu1⟩ : ∃ x, nth u (j + v.length - 1) = x := ⟨_, rfl⟩
  obtain ⟨u2, hu2⟩ : ∃ x, nth u (j + v.length - 2) = x := ⟨_, rfl⟩
  obtain ⟨v1, hv1⟩ : ∃ x, nth v (v.length - 1) = x := ⟨_, rfl⟩
  obtain ⟨v2, hv2⟩ : ∃ x, nth v (v.length - 2) = x := ⟨_, rfl⟩
  rw [hu0] at p1 l1 eU
  rw [hu1] at p2 l2 eU
  rw [hu2] at p3 l3 eU
  rw [hv1] at p4 l4 eV htop
  rw [hv2] at p5 l5 eV
  obtain ⟨top, htp⟩ : ∃ top, u0 * 4294967296 + u1 = top := ⟨_, rfl⟩
  rw [htp] at eU
  have htt : top < v1 * 4294967296 + 4294967296 := guess_top l5 hVl (by rw [← eU, ← eV]; exact hlt)
  have hv1p : 0 < v1 := by omega
  have g0 := guess_first (top := top) (v2 := v2) (Vl := val (v.take (v.length - 2))) hv1p l3 hUl
  rw [← eU, ← eV] at g0
  have gl := guess_le htop htt
  have G0 : Hid (val (u.drop j) < (top / v1 + 1) * val v) := Lib.hid g0
  have G1 : Hid (∀ q, 4294967296 ≤ q → val (u.drop j) < (q - 1 + 1) * val v) := Lib.hid fun q hq => guess_big hlt hq
  have G2 : Hid (∀ q r, q * v1 + r = top → r * 4294967296 + u2 < q * v2 → val (u.drop j) < (q - 1 + 1) * val v) := Lib.hid fun q r h1 h2 => by
    have := guess_test (Vl := val (v.take (v.length - 2))) hUl h1 h2
    rw [← eU, ← eV] at this; exact this
  have G3 : Hid (∀ q r, q < 4294967296 → val (u.drop j) < (q + 1) * val v → q * v1 + r = top → q * v2 ≤ r * 4294967296 + u2 → GuessOk u v j q) := Lib.hid fun q r h0 h1 h2 h3 => by
    have := guess_end (Ul := val ((u.drop j).take (v.length - 2))) hVl hv1p (Nat.le_of_lt h0) (guess_left h2 h3)
    rw [← eU, ← eV] at this
    exact ⟨h0, h1, this⟩
  have G4 : Hid (∀ q r, q ≤ 4294967296 → val (u.drop j) < (q + 1) * val v → q * v1 + r = top → 4294967296 ≤ r → GuessOk u v j q) := Lib.hid fun q r h0 h1 h2 h3 => by
    have := guess_end (Ul := val ((u.drop j).take (v.length - 2))) hVl hv1p h0 (guess_break (u2 := u2) h2 h3 l5 h0)
    rw [← eU, ← eV] at this
    exact ⟨guess_lt h2 h3 htt, h1, this⟩
  have hq0 := Nat.div_add_mod top v1
  rw [Nat.mul_comm] at hq0
  have hr0 := Nat.mod_lt top hv1p
  obtain ⟨Q0, hQ0⟩ : ∃ Q0, top / v1 = Q0 := ⟨_, rfl⟩
  obtain ⟨R0, hR0⟩ : ∃ R0, top % v1 = R0 := ⟨_, rfl⟩
  have hdiv : (top : Int) / (v1 : Int) = (Q0 : Int) := by rw [← Int.natCast_ediv, hQ0]
  have hmod : (top : Int) % (v1 : Int) = (R0 : Int) := by rw [← Int.natCast_emod, hR0]
  have hdivt : (top : Int).tdiv (v1 : Int) = (Q0 : Int) := by rw [Int.tdiv_eq_ediv_of_nonneg (by omega)]; exact hdiv
  have hmodt : (top : Int).tmod (v1 : Int) = (R0 : Int) := by rw [Int.tmod_eq_emod_of_nonneg (by omega)]; exact hmod
  have hnz : ((v1 : Int) == 0) = false := by rw [beq_eq_false_iff_ne]; omega
  rw [hQ0] at hq0 gl G0
  rw [hR0] at hq0 hr0
  have HQ0 := Lib.hid hq0
  have w1 : IntKind.i64.wrap ((j : Int) + (v.length : Int)) = ((j + v.length : Nat) : Int) := by rw [IntWalk.i64_in _ (by omega)]; omega
  have w2 : IntKind.i64.wrap (((j + v.length : Nat) : Int) - 1) = ((j + v.length - 1 : Nat) : Int) := by rw [IntWalk.i64_in _ (by omega)]; omega
  have w3 : IntKind.i64.wrap (((j + v.length : Nat) : Int) - 2) = ((j + v.length - 2 : Nat) : Int) := by rw [IntWalk.i64_in _ (by omega)]; omega
  have ht64 : top < 18446744073709551616 := by omega
  have or0 := or_shift (r := u0) l1 l2
  rw [htp] at or0
  clear hQ0 hR0 eU eV hVl hUl hlt htt g0 hq0 htp hu0 hu1 hu2 hv1 hv2
  go_enter Tryz.func110, Tryz.ntmps110
  go_wp2_with fail
  go_quiet (fail)
  go_wp2_with fail
  go_quiet (fail)
  go_wp2_with fail
  have hR0b : R0 < 4294967296 := by omega
  clear htop ht64 hr0 w1 w2 p1 p2 p4 or0 hdiv hmod hdivt hmodt hnz
  go_loopw [10, 11] (fun qv rv wr => ∃ q r : Nat, q ≤ 4294967297 ∧ r < 4294967296 ∧ qv = .int .u64 q ∧ rv = .int .u64 r ∧ Hid (q * v1 + r = top) ∧ Hid (val (u.drop j) < (q + 1) * val v) ∧ ∃ d, wr = w.drewN d) (fun qv _ _ => (intOf qv).toNat)
  case atStart => exact ⟨Q0, R0, gl, by omega, rfl, rfl, HQ0, G0, ⟨_, by first | rfl | rw [World.drewN_drewN]⟩⟩
  case round =>
    obtain ⟨q, r, hq, hr, rfl, rfl, hE, hU, ⟨d, rfl⟩⟩ := hrel
    by_cases hqb : 4294967296 ≤ q
    · have hq1 : 1 ≤ q := by omega
      obtain ⟨p, hp⟩ : ∃ p, q - 1 = p := ⟨_, rfl⟩
      have hpi : (q : Int) - 1 = (p : Int) := by omega
      have hN : Hid (val (u.drop j) < (p + 1) * val v) := Lib.hid (by have := G1.out q hqb; rw [hp] at this; exact this)
      have hE2 : Hid (p * v1 + (r + v1) = top) := Lib.hid (by have := hE.out; rw [show q = p + 1 by omega, Nat.add_mul, Nat.one_mul] at this; omega)
      have hd : (4294967296 : Int) ≤ (q : Int) := by omega
      have hpq : Hid (p < q ∧ p ≤ 4294967296) := Lib.hid (by omega)
      clear hqb hp
      go_wp2_with fail
      go_quiet (fail)
      by_cases hbr : (4294967296 : Int) ≤ (r : Int) + (v1 : Int)
      · have HF := Lib.hid (G4.out p (r + v1) hpq.out.2 hN.out hE2.out (by omega))
        go_wp2_with fail
        go_ret
        exact ⟨p, rfl, HF.out, ⟨_, by first | rfl | rw [World.drewN_drewN]⟩⟩
      · obtain ⟨s, hs⟩ : ∃ s, r + v1 = s := ⟨_, rfl⟩
        have hrv : (r : Int) + (v1 : Int) = (s : Int) := by omega
        have hrr : Hid (s < 4294967296) := Lib.hid (by omega)
        have hsd : decide ((4294967296 : Int) ≤ (s : Int)) = false := by simpa using (show (s : Int) < 4294967296 by omega)
        rw [hs] at hE2
        clear hs hbr
        go_wp2_with fail
        go_roundw
        case rel => exact ⟨p, s, by have := hpq.out.2; omega, hrr.out, rfl, rfl, hE2, hN, ⟨_, by first | rfl | rw [World.drewN_drewN]⟩⟩
        case measure => have := hpq.out.1; simp [intOf] <;> omega
    · have HQB := Lib.hid hqb
      have hd : decide ((4294967296 : Int) ≤ (q : Int)) = false := by simpa using (show (q : Int) < 4294967296 by omega)
      obtain ⟨QV, hQV⟩ : ∃ QV, q * v2 = QV := ⟨_, rfl⟩
      have hQVi : (q : Int) * (v2 : Int) = (QV : Int) := by rw [← hQV, Int.natCast_mul]
      have hQVb : QV ≤ 4294967295 * 4294967295 := by rw [← hQV]; exact Nat.mul_le_mul (by omega) (by omega)
      have hmulw : IntKind.u64.wrap ((q : Int) * (v2 : Int)) = (QV : Int) := by rw [hQVi, IntWalk.u64_in _ (by omega)]
      have hor := or_shift (r := r) hr l3
      obtain ⟨RU, hRU⟩ : ∃ RU, r * 4294967296 + u2 = RU := ⟨_, rfl⟩
      rw [hRU] at hor
      by_cases ht : RU < QV
      · have htd : decide (RU < QV) = true := by simpa using ht
        have hq1 : 1 ≤ q := by
          rcases Nat.eq_zero_or_pos q with h | h
          · rw [h, Nat.zero_mul] at hQV; omega
          · exact h
        obtain ⟨p, hp⟩ : ∃ p, q - 1 = p := ⟨_, rfl⟩
        have hpi : (q : Int) - 1 = (p : Int) := by omega
        have hN : Hid (val (u.drop j) < (p + 1) * val v) := Lib.hid (by have := G2.out q r hE.out (by rw [hRU, hQV]; exact ht); rw [hp] at this; exact this)
        have hE2 : Hid (p * v1 + (r + v1) = top) := Lib.hid (by have := hE.out; rw [show q = p + 1 by omega, Nat.add_mul, Nat.one_mul] at this; omega)
        have hpq : Hid (p < q ∧ p ≤ 4294967296) := Lib.hid (by omega)
        clear hqb hp hQV hRU
        go_wp2_with fail
        go_quiet (fail)
        by_cases hbr : (4294967296 : Int) ≤ (r : Int) + (v1 : Int)
        · have HF := Lib.hid (G4.out p (r + v1) hpq.out.2 hN.out hE2.out (by omega))
          go_wp2_with fail
          go_ret
          exact ⟨p, rfl, HF.out, ⟨_, by first | rfl | rw [World.drewN_drewN]⟩⟩
        · obtain ⟨s, hs⟩ : ∃ s, r + v1 = s := ⟨_, rfl⟩
          have hrv : (r : Int) + (v1 : Int) = (s : Int) := by omega
          have hrr : Hid (s < 4294967296) := Lib.hid (by omega)
          have hsd : decide ((4294967296 : Int) ≤ (s : Int)) = false := by simpa using (show (s : Int) < 4294967296 by omega)
          rw [hs] at hE2
          clear hs hbr
          go_wp2_with fail
          go_roundw
          case rel => exact ⟨p, s, by have := hpq.out.2; omega, hrr.out, rfl, rfl, hE2, hN, ⟨_, by first | rfl | rw [World.drewN_drewN]⟩⟩
          case measure => have := hpq.out.1; simp [intOf] <;> omega
      · have htd : decide (RU < QV) = false := by simpa using ht
        have HF := Lib.hid (G3.out q r (by omega) hU.out hE.out (by rw [hRU, hQV]; omega))
        clear hqb hQV hRU
        go_wp2_with fail
        go_quiet (fail)
        go_wp2_with fail
        go_ret
        exact ⟨q, rfl, HF.out, ⟨_, by first | rfl | rw [World.drewN_drewN]⟩⟩

end Go.Proofs.YtbnhgmikegdppaaGreat

namespace Go.Proofs.YtbnhgmikegdppaaGreat
open Go.RowKit Go.Proofs.Kit Go.Proofs.Nums

theorem ownsRow_same {w w' : World} {base size n : Nat} {e : TypeId} {v : Value} {xs : List Value} (h : w.ownsRow base e size v n xs) (hh : ∀ b, v.ownBlock = some b → w'.heap[b]? = w.heap[b]?) : w'.ownsRow base e size v n xs := by
  refine ⟨h.1, ?_⟩
  rcases h.2 with hn | ⟨g, cap, cur, rfl, hbg, hgg, rest⟩
  · exact .inl hn
  · refine .inr ⟨g, cap, cur, rfl, hbg, ?_, rest⟩
    rw [hh g rfl]
    exact hgg

theorem NatAt.put {w : World} {v : Value} {l : List Nat} {g o : Nat} {u : Value} (h : NatAt w v l) (hg : v.ownBlock ≠ some g) : NatAt (w.setCell ⟨g, o, none⟩ u) v l :=
  NatAtSame h fun b hb => Below.heap_setCell w _ u b (by intro e; apply hg; rw [hb, e])

theorem OwnNat.other {w : World} {base g n cap : Nat} {o : List Nat} {g' j : Nat} {u : Value} (h : OwnNat w base g n cap o) (hg : g ≠ g') : OwnNat (w.setCell ⟨g', j, none⟩ u) base g n cap o :=
  ⟨h.1, h.2.1, ownsRow_same h.2.2 fun b hb => Below.heap_setCell w _ u b (by
    simp [Value.ownBlock] at hb
    subst hb
    exact hg)⟩

theorem and_low (P : Nat) (hP : P < 18446744073709551616) : Go.bits .and .u64 (P : Int) 4294967295 = ((P % 4294967296 : Nat) : Int) := by
  have h := bits_mask .u64 64 (by decide) (fun n h0 h1 => by rw [IntKind.wrap_u64]; omega) 32 (by decide) (P : Int) (by omega) (by omega)
  have e : ((2 : Int) ^ 32 - 1) = 4294967295 := by decide
  rw [e] at h
  rw [h]
  omega

theorem msub_lt {q v c : Nat} (hq : q < 4294967296) (hv : v < 4294967296) (hc : c < 4294967296) : q * v + c < 18446744073709551616 ∧ (q * v + c) / 4294967296 < 4294967296 := by
  have h1 : q * v ≤ 4294967295 * 4294967295 := Nat.mul_le_mul (by omega) (by omega)
  constructor <;> omega

theorem own_lt {w : World} {v : Value} {l : List Nat} (h : NatAt w v l) (h0 : 0 < l.length) : ∀ b, v.ownBlock = some b → b < w.heap.size := by
  rcases h.cases with ⟨h1, _⟩ | ⟨_, b, o, k, rfl, _, _, hb, _⟩
  · rw [h1] at h0; simp at h0
  · intro b' hb'
    simp [Value.ownBlock] at hb'
    omega

theorem below_drew {w w' : World} (h : ∃ d, w' = w.drewN d) : Below w.heap.size w w' := by
  obtain ⟨d, rfl⟩ := h; exact below_drewN (Below.refl _ _) d

theorem quiet_limb {va : Value} {a : List Nat} {i n : Nat} {w : World} (h : NatAt w va a) :
    Calls Tryz.prog 111 #[va, .int .i64 i] (w.drewN n) fun e w' => e = .returned (.int .u64 ((nth a i : Nat) : Int)) ∧ w' = w.drewN n :=
  (limb_any va a i (w.drewN n) (h.keep (below_drewN (Below.refl _ _) n))).mono fun _ _ ⟨h1, h2⟩ => ⟨h1, h2.symm⟩

theorem drop_step {x y : List Nat} {i j z : Nat} (h : y.drop (i + j) = x.drop (i + j)) : (y.set (i + j) z).drop (i + 1 + j) = x.drop (i + 1 + j) := by
  rw [List.drop_set_of_lt (by omega), show i + 1 + j = i + j + 1 by omega]
  have h2 := congrArg (List.drop 1) h
  rw [List.drop_drop, List.drop_drop] at h2
  exact h2

set_option maxRecDepth 1000000 in
set_option maxHeartbeats 8000000 in
theorem long_any (vv : Value) (u v : List Nat) (B g c : Nat) (w : World) (hU : OwnNat w B g u.length c u) (hv : NatAt w vv v) (hg : vv.ownBlock ≠ some g) (hB : B ≤ w.heap.size)
    (hn : 2 ≤ v.length) (hL : v.length < u.length) (hul : u.length ≤ 1000001) (htop : 2147483648 ≤ nth v (v.length - 1)) (hlt : val (u.drop (u.length - v.length)) < val v) :
    Calls Tryz.prog 103 #[.slice (some ⟨g, 0, none⟩) u.length c, vv] w fun e w' => ∃ v' o u', e = .returned v' ∧ NatAt w' v' o ∧ OwnNat w' B g u.length c u' ∧ Hid (val o * val v + val u' = val u ∧ val u' < val v ∧ o.length ≤ u.length) ∧ Below B w w' := by
  obtain ⟨p2, c2, rfl⟩ := hv.shape
  obtain ⟨n, hnn⟩ : ∃ n, v.length = n := ⟨_, rfl⟩
  obtain ⟨L, hLL⟩ : ∃ L, u.length = L := ⟨_, rfl⟩
  rw [hnn] at hn hL htop hlt hg ⊢
  rw [hLL] at hL hul hU hlt ⊢
  obtain ⟨m, hm⟩ : ∃ m, L - n = m := ⟨_, rfl⟩
  rw [hm] at hlt
  have hmi : (L : Int) - (n : Int) = (m : Int) := by omega
  have HNN := Lib.hid hnn
  have HTOP := Lib.hid htop
  have HLT := Lib.hid hlt
  have HG := Lib.hid hg
  have hgl := hU.lt
  have HU := Lib.hid hU
  have HV := Lib.hid hv
  have hvl := hv.2
  rw [hnn] at HV
  have HVL := Lib.hid hvl
  have hLm : L = m + n := by omega
  have HLm := Lib.hid hLm
  clear hnn hm htop hlt hg hU hv hvl hLL hLm
  go_enter Tryz.func103, Tryz.ntmps103
  go_wp2_with (at_make; go_must (refine make_any er49 rfl rfl rfl rfl (by omega) (by omega) (by omega) ?_); intro w3 hown3 hb3)
  rw [Int.toNat_natCast] at hown3
  have hown := OwnNat.made hown3
  have HG2 : Hid ((Value.slice p2 n c2).ownBlock ≠ some w.heap.size) := Lib.hid (fun h => Nat.lt_irrefl _ (own_lt HV.out (by rw [HNN.out]; omega) _ h))
  have hbB : Below B w w3 := hb3.mono hB
  clear hown3
  go_loopw [7] (fun iv wr => ∃ k : Nat, ∃ x o : List Nat, k ≤ m ∧ iv = .int .i64 ((k : Int) - 1) ∧ OwnNat wr B g L c x ∧ OwnNat wr w.heap.size w.heap.size m m o ∧ NatAt wr (.slice p2 n c2) v ∧ Below B w wr ∧
      Hid (val (o.drop k) * val v * 4294967296 ^ k + val x = val u) ∧ Hid (val (x.drop k) < val v)) (fun iv _ => (intOf iv + 1).toNat)
  case atStart => exact ⟨m, u, _, by omega, by go_num, HU.out.keep hb3, hown, HV.out.keep hb3, hbB, Lib.hid (by rw [List.drop_of_length_le (by simp)]; simp [val]), HLT⟩
  case round =>
    obtain ⟨k, x, o, hk, rfl, hX, hO, hv, hbel, hP, hR⟩ := hrel
    by_cases h0 : 0 < k
    · obtain ⟨j, rfl⟩ : ∃ j, k = j + 1 := ⟨k - 1, by omega⟩
      rw [show ((j + 1 : Nat) : Int) - 1 = (j : Int) by omega]
      have hLm1 : L ≤ m + n := Nat.le_of_eq HLm.out
      have hLm2 : m + n ≤ L := Nat.le_of_eq HLm.out.symm
      have HXL := Lib.hid hX.1
      have HXLim := Lib.hid hX.2.1
      have hzz : Hid (val (x.drop (j + n + 1)) = 0) := Lib.hid (by
        have := long_zero (u := x) (k := j + 1) HVL.out (by rw [HNN.out, HXL.out]; omega) hR.out
        rw [HNN.out, show j + 1 + n = j + n + 1 by omega] at this; exact this)
      have hwin : Hid (val (x.drop j) < val v * 4294967296) := Lib.hid (long_window HXLim.out (by rw [HXL.out]; omega) hR.out)
      have G := guess_any _ _ x v j wr hX.read hv (by rw [HNN.out]; exact hn) (by rw [HNN.out, HXL.out]; omega) (by rw [HXL.out]; exact hul) (by rw [HNN.out]; exact HTOP.out) (by rw [HNN.out]; exact hzz.out) hwin.out
      have HGU := Lib.hid G
      have HX := Lib.hid hX
      have HO := Lib.hid hO
      have HVR := Lib.hid hv
      clear G hX hO hv
      go_wp2_with (go_at_call 110; ((with_reducible refine HGU.out.mono ?_); rintro e w4 ⟨q, rfl, hq, hd⟩; have hb4 := below_drew hd; clear hd))
      clear HGU
      have hql := hq.out.1
      have X4 := HX.out.keep hb4
      have O4 := HO.out.keep hb4
      have V4 := HVR.out.keep hb4
      have B4 := hbel.trans (hb4.mono (Nat.le_trans hB (by have := hbel.size; exact this)))
      clear HX HO HVR hb4
      go_loopw [9, 10, 38] (fun bv cv iv ws => ∃ i cc bo : Nat, ∃ y : List Nat, i ≤ n + 1 ∧ cc < 4294967296 ∧ bo ≤ 1 ∧ iv = .int .i64 i ∧ cv = .int .u64 cc ∧ bv = .int .u64 bo ∧ OwnNat ws B g L c y ∧ OwnNat ws w.heap.size w.heap.size m m o ∧ NatAt ws (.slice p2 n c2) v ∧ Below B w ws ∧
          Hid (val y + 4294967296 ^ j * (q * val (v.take i)) = val x + 4294967296 ^ (i + j) * (cc + bo)) ∧ Hid (n < i → cc = 0) ∧ Hid (y.drop (i + j) = x.drop (i + j))) (fun _ _ iv _ => n + 1 - (intOf iv).toNat)
      case atStart => exact ⟨0, 0, 0, x, by omega, by omega, by omega, rfl, rfl, rfl, X4, O4, V4, B4, Lib.hid (by simp [val]), Lib.hid (fun h => absurd h (by omega)), Lib.hid rfl⟩
      case round =>
        obtain ⟨i, cc, bo, y, hi, hcc, hbo, rfl, rfl, rfl, hY, hO, hv, hbs, hE, hC, hD⟩ := hrel
        by_cases hin : i < n + 1
        · have hVi := HVL.out.nth i
          have hYi := hY.2.1.nth (i + j)
          have LB := Lib.hid (limb_any _ v i wr hv)
          obtain ⟨P, hPP⟩ : ∃ P, q * nth v i + cc = P := ⟨_, rfl⟩
          obtain ⟨hP64, hPH⟩ := msub_lt hql hVi hcc
          rw [hPP] at hP64 hPH
          obtain ⟨QV, hQV⟩ : ∃ QV, q * nth v i = QV := ⟨_, rfl⟩
          have hQVi : (q : Int) * (nth v i : Int) = (QV : Int) := by rw [← hQV, Int.natCast_mul]
          have hPi : (QV : Int) + (cc : Int) = (P : Int) := by omega
          obtain ⟨PL, hPL⟩ : ∃ PL, P % 4294967296 = PL := ⟨_, rfl⟩
          obtain ⟨PH, hPHH⟩ : ∃ PH, P / 4294967296 = PH := ⟨_, rfl⟩
          have hand := and_low P hP64
          rw [hPL] at hand
          have hshr : (P : Int) / 4294967296 = (PH : Int) := by omega
          rw [hPHH] at hPH
          have hPLb : PL < 4294967296 := by omega
          have hsub1 : 0 ≤ 4294967296 + (nth y (i + j) : Int) - (PL : Int) := by omega
          have hsub2 : 0 ≤ 4294967296 + (nth y (i + j) : Int) - (PL : Int) - (bo : Int) := by omega
          have hsub3 : (4294967296 + (nth y (i + j) : Int) - (PL : Int) - (bo : Int)) / 4294967296 ≤ 1 := by omega
          have hsub4 : 0 ≤ (4294967296 + (nth y (i + j) : Int) - (PL : Int) - (bo : Int)) / 4294967296 := by omega
          have hcell := hY.cell (j := i + j) (by omega)
          have hfree := hY.free (i + j)
          have hC0 : Hid (n < i + 1 → PH = 0) := Lib.hid (fun h => by
            have hv0 : nth v i = 0 := nth_ge (by rw [HNN.out]; omega)
            rw [hv0, Nat.mul_zero] at hQV
            omega)
          obtain ⟨t, ht⟩ : ∃ t, t + PL + bo = 4294967296 + nth y (i + j) := ⟨4294967296 + nth y (i + j) - PL - bo, by omega⟩
          have hst : Hid (val (y.set (i + j) (t % 4294967296)) + 4294967296 ^ j * (q * val (v.take (i + 1))) = val x + 4294967296 ^ (i + 1 + j) * (PH + (1 - t / 4294967296))) := Lib.hid (by
            rw [← hPHH]
            exact msub_step (by rw [hY.1]; omega) hPP.symm (by rw [hPL]; exact ht) (by omega) hE.out)
          have hdr : Hid ((y.set (i + j) (t % 4294967296)).drop (i + 1 + j) = x.drop (i + 1 + j)) := Lib.hid (drop_step hD.out)
          have HPUT := Lib.hid (hY.put (i + j) (t % 4294967296) (Nat.mod_lt _ (by omega)))
          have HOO : Hid (OwnNat (wr.setCell ⟨g, i + j, none⟩ (.int .u32 ((t % 4294967296 : Nat) : Int))) w.heap.size w.heap.size m m o) := Lib.hid (hO.other (by omega))
          have HVV : Hid (NatAt (wr.setCell ⟨g, i + j, none⟩ (.int .u32 ((t % 4294967296 : Nat) : Int))) (.slice p2 n c2) v) := Lib.hid (hv.put HG.out)
          have HT := Lib.hid ht
          clear hY hO hv hQV hPL hPHH ht hPP hE hC hD
          go_wp2_with (go_at_call 111; ((with_reducible refine LB.out.mono ?_); rintro e w5 ⟨rfl, rfl⟩))
          have ht := HT.out
          have e1 : (4294967296 + (nth y (i + j) : Int) - (PL : Int) - (bo : Int)) % 4294967296 = ((t % 4294967296 : Nat) : Int) := by omega
          have e2 : 1 - (4294967296 + (nth y (i + j) : Int) - (PL : Int) - (bo : Int)) / 4294967296 = ((1 - t / 4294967296 : Nat) : Int) := by omega
          go_roundw
          case rel =>
            rw [e1, e2]
            exact ⟨i + 1, PH, 1 - t / 4294967296, _, by omega, hPH, by omega, by go_num, rfl, rfl, HPUT.out.1, HOO.out, HVV.out, hbs.trans HPUT.out.2, hst, hC0, hdr⟩
          case measure => simp [intOf] <;> omega
        · obtain rfl : i = n + 1 := by omega
          have hc0 : cc = 0 := hC.out (by omega)
          subst hc0
          have hE' : Hid (val y + 4294967296 ^ j * (q * val v) = val x + 4294967296 ^ (n + 1 + j) * bo) := Lib.hid (by
            have := hE.out
            rw [List.take_of_length_le (by rw [HNN.out]; omega), Nat.zero_add] at this; exact this)
          have hzy : Hid (val (y.drop (j + n + 1)) = 0) := Lib.hid (by
            have := hD.out
            rw [show n + 1 + j = j + n + 1 by omega] at this
            rw [this]; exact hzz.out)
          have HYL := Lib.hid hY.1
          have HYLim := Lib.hid hY.2.1
          have hcell := hO.cell (j := j) (by omega)
          have hfree := hO.free j
          clear hE hC hD
          have hbo' : bo = 0 ∨ bo = 1 := by omega
          rcases hbo' with rfl | rfl
          · have hE2 : Hid (val y + 4294967296 ^ j * (q * val v) = val x) := Lib.hid (by have := hE'.out; rw [Nat.mul_zero, Nat.add_zero] at this; exact this)
            have hlt := long_sub HYLim.out HXLim.out (by rw [HYL.out, HXL.out]) (by rw [HXL.out]; omega) hE2.out hq.out.2.1
            have HLT2 := Lib.hid hlt
            have hdg := long_digit (o := o) (by rw [hO.1]; omega) hP.out hE2.out
            have HDG := Lib.hid hdg
            have HPUT := Lib.hid (hO.put j q hql)
            have HYY : Hid (OwnNat (wr.setCell ⟨w.heap.size, j, none⟩ (.int .u32 (q : Int))) B g L c y) := Lib.hid (hY.other (by omega))
            have HVV : Hid (NatAt (wr.setCell ⟨w.heap.size, j, none⟩ (.int .u32 (q : Int))) (.slice p2 n c2) v) := Lib.hid (hv.put HG2.out)
            clear hlt hdg hY hO hv hE'
            go_wp2_with fail
            go_roundw
            case rel => exact ⟨j, y, o.set j q, by omega, by go_num, HYY.out, HPUT.out.1, HVV.out, hbs.trans (HPUT.out.2.mono hB), HDG, HLT2⟩
            case measure => simp [intOf] <;> omega
          · have hE1 : Hid (val y + 4294967296 ^ j * (q * val v) = val x + 4294967296 ^ (n + 1 + j)) := Lib.hid (by have := hE'.out; rw [Nat.mul_one] at this; exact this)
            have hbr := Lib.hid (long_borrow HYLim.out HXLim.out (by rw [HYL.out, HXL.out]) (by rw [HXL.out]; omega) hzy.out hE1.out)
            have hq1 : 1 ≤ q := by
              rcases Nat.eq_zero_or_pos q with h | h
              · have := hbr.out.1; rw [h, Nat.zero_mul] at this; omega
              · exact h
            obtain ⟨q1, hq1'⟩ : ∃ q1, q - 1 = q1 := ⟨_, rfl⟩
            have hq1i : (q : Int) - 1 = (q1 : Int) := by omega
            have hq1l : q1 < 4294967296 := by omega
            have HQ1 := Lib.hid hq1'
            have HY := Lib.hid hY
            have HO := Lib.hid hO
            have HVV := Lib.hid hv
            clear hY hO hv hE' hq1' hcell hfree
            go_wp2_with fail
            go_loopw [10, 80] (fun cv iv ws => ∃ i cc : Nat, ∃ z : List Nat, i ≤ n + 1 ∧ cc ≤ 1 ∧ iv = .int .i64 i ∧ cv = .int .u64 cc ∧ OwnNat ws B g L c z ∧ OwnNat ws w.heap.size w.heap.size m m o ∧ NatAt ws (.slice p2 n c2) v ∧ Below B w ws ∧
                Hid (val z + 4294967296 ^ (i + j) * cc = val y + 4294967296 ^ j * val (v.take i)) ∧ Hid (z.drop (i + j) = y.drop (i + j))) (fun _ iv _ => n + 1 - (intOf iv).toNat)
            case atStart => exact ⟨0, 0, y, by omega, by omega, rfl, rfl, HY.out, HO.out, HVV.out, hbs, Lib.hid (by simp [val]), Lib.hid rfl⟩
            case round =>
              obtain ⟨i, cc, z, hi, hcc, rfl, rfl, hZ, hO, hv, hbz, hE, hD⟩ := hrel
              by_cases hin : i < n + 1
              · have hVi := HVL.out.nth i
                have hZi := hZ.2.1.nth (i + j)
                obtain ⟨t, ht⟩ : ∃ t, nth z (i + j) + nth v i + cc = t := ⟨_, rfl⟩
                have hst : Hid (val (z.set (i + j) (t % 4294967296)) + 4294967296 ^ (i + 1 + j) * (t / 4294967296) = val y + 4294967296 ^ j * val (v.take (i + 1))) := Lib.hid (addb_step (by rw [hZ.1]; omega) ht.symm hE.out)
                have hdr : Hid ((z.set (i + j) (t % 4294967296)).drop (i + 1 + j) = y.drop (i + 1 + j)) := Lib.hid (drop_step hD.out)
                have hcell := hZ.cell (j := i + j) (by omega)
                have hfree := hZ.free (i + j)
                have w1 : IntKind.i64.wrap ((i : Int) + (j : Int)) = ((i + j : Nat) : Int) := by rw [IntWalk.i64_in _ (by omega)]; omega
                have w2 : IntKind.u64.wrap ((nth z (i + j) : Int) + (nth v i : Int)) = (nth z (i + j) : Int) + (nth v i : Int) := IntWalk.u64_in _ (by omega)
                have w3 : IntKind.u64.wrap ((nth z (i + j) : Int) + (nth v i : Int) + (cc : Int)) = (t : Int) := by rw [IntWalk.u64_in _ (by omega)]; omega
                have HZ := Lib.hid hZ
                have HO := Lib.hid hO
                have HVV := Lib.hid hv
                have HT := Lib.hid ht
                clear hZ hO hv hE hD ht
                go_wp2_with fail
                go_quiet ((go_at_call 111; exact Calls.quiet_of_same (quiet_limb HVV.out)))
                go_wp2_with fail
                have hZ2 := HZ.out.keep (below_drewN (Below.refl _ _) nq)
                have HPUT := Lib.hid (hZ2.put (i + j) (t % 4294967296) (Nat.mod_lt _ (by omega)))
                have HOO : Hid (OwnNat ((wr.drewN nq).setCell ⟨g, i + j, none⟩ (.int .u32 ((t % 4294967296 : Nat) : Int))) w.heap.size w.heap.size m m o) := Lib.hid ((HO.out.keep (below_drewN (Below.refl _ _) nq)).other (by omega))
                have HVW : Hid (NatAt ((wr.drewN nq).setCell ⟨g, i + j, none⟩ (.int .u32 ((t % 4294967296 : Nat) : Int))) (.slice p2 n c2) v) := Lib.hid ((HVV.out.keep (below_drewN (Below.refl _ _) nq)).put HG.out)
                have htl := HT.out
                clear hZ2
                go_roundw
                case rel => exact ⟨i + 1, t / 4294967296, _, by omega, by omega, by go_num, rfl, HPUT.out.1, HOO.out, HVW.out, (below_drewN hbz nq).trans HPUT.out.2, hst, hdr⟩
                case measure => simp [intOf] <;> omega
              · obtain rfl : i = n + 1 := by omega
                have hE' : Hid (val z + 4294967296 ^ (n + 1 + j) * cc = val y + 4294967296 ^ j * val v) := Lib.hid (by
                  have := hE.out
                  rw [List.take_of_length_le (by rw [HNN.out]; omega)] at this; exact this)
                have hzz2 : Hid (val (z.drop (j + n + 1)) = 0) := Lib.hid (by
                  have := hD.out
                  rw [show n + 1 + j = j + n + 1 by omega] at this
                  rw [this]; exact hzy.out)
                have hbk := long_back hZ.2.1 HYLim.out (by rw [HYL.out, HXL.out]) (by rw [hZ.1, HXL.out]) (by rw [HXL.out]; omega) hzz2.out hbr.out hE1.out hq.out.2.2 hcc hE'.out
                rw [HQ1.out] at hbk
                have HBK := Lib.hid hbk
                have HDG := Lib.hid (long_digit (o := o) (by rw [hO.1]; omega) hP.out hbk.2.1)
                have hcell := hO.cell (j := j) (by omega)
                have hfree := hO.free j
                have HPUT := Lib.hid (hO.put j q1 hq1l)
                have HZZ : Hid (OwnNat (wr.setCell ⟨w.heap.size, j, none⟩ (.int .u32 (q1 : Int))) B g L c z) := Lib.hid (hZ.other (by omega))
                have HVW : Hid (NatAt (wr.setCell ⟨w.heap.size, j, none⟩ (.int .u32 (q1 : Int))) (.slice p2 n c2) v) := Lib.hid (hv.put HG2.out)
                clear hZ hO hv hE hD hbk hin hE'
                go_wp2_with fail
                go_roundw
                case rel => exact ⟨j, z, o.set j q1, by omega, by go_num, HZZ.out, HPUT.out.1, HVW.out, hbz.trans (HPUT.out.2.mono hB), HDG, Lib.hid HBK.out.2.2⟩
                case measure => simp [intOf] <;> omega
    · obtain rfl : k = 0 := by omega
      have hF : Hid (val o * val v + val x = val u ∧ val x < val v ∧ o.length ≤ L) := Lib.hid (by
        have h1 := hP.out
        have h2 := hR.out
        rw [List.drop_zero, Nat.pow_zero, Nat.mul_one] at h1
        rw [List.drop_zero] at h2
        exact ⟨h1, h2, by rw [hO.1]; have := HLm.out; omega⟩)
      have HX := Lib.hid hX
      have HO := Lib.hid hO
      clear hX hO hv hP hR
      go_wp2_with fail
      go_ret
      exact ⟨_, o, x, rfl, HO.out.read, HX.out, hF, hbel⟩

end Go.Proofs.YtbnhgmikegdppaaGreat

namespace Go.Proofs.YtbnhgmikegdppaaGreat
open Go.RowKit Go.Proofs.Kit Go.Proofs.Nums

/-- v denotes n, in at most L limbs. -/
def Num (w : World) (v : Value) (n L : Nat) : Prop := ∃ l, NatAt w v l ∧ val l = n ∧ l.length ≤ L
/-- v denotes n in normal form, in at most L limbs. -/
def Nrm (w : World) (v : Value) (n L : Nat) : Prop := NatAt w v (limbs n) ∧ n < 4294967296 ^ L

theorem Num.keep {w w' : World} {v : Value} {n L : Nat} (h : Num w v n L) (hb : Below w.heap.size w w') : Num w' v n L := by
  obtain ⟨l, h1, h2, h3⟩ := h; exact ⟨l, h1.keep hb, h2, h3⟩
theorem Nrm.keep {w w' : World} {v : Value} {n L : Nat} (h : Nrm w v n L) (hb : Below w.heap.size w w') : Nrm w' v n L := ⟨h.1.keep hb, h.2⟩
theorem Nrm.num {w : World} {v : Value} {n L : Nat} (h : Nrm w v n L) : Num w v n L := ⟨_, h.1, val_limbs n, limbs_len_le n L h.2⟩
theorem Num.lt {w : World} {v : Value} {n L : Nat} (h : Num w v n L) : n < 4294967296 ^ L := by
  obtain ⟨l, h1, rfl, h3⟩ := h
  exact Nat.lt_of_lt_of_le (val_lt l h1.2) (Nat.pow_le_pow_right (by omega) h3)
theorem Num.of {w : World} {v : Value} {l : List Nat} {L : Nat} (h : NatAt w v l) (hl : l.length ≤ L) : Num w v (val l) L := ⟨l, h, rfl, hl⟩
theorem Num.wider {w : World} {v : Value} {n L L' : Nat} (h : Num w v n L) (hl : L ≤ L') : Num w v n L' := by
  obtain ⟨l, h1, h2, h3⟩ := h; exact ⟨l, h1, h2, Nat.le_trans h3 hl⟩
theorem Nrm.wider {w : World} {v : Value} {n L L' : Nat} (h : Nrm w v n L) (hl : L ≤ L') : Nrm w v n L' := ⟨h.1, Nat.lt_of_lt_of_le h.2 (Nat.pow_le_pow_right (by omega) hl)⟩
theorem Nrm.len {w : World} {v : Value} {n L : Nat} (h : Nrm w v n L) : (limbs n).length ≤ L := limbs_len_le n L h.2

theorem lt_add {n m L M : Nat} (h1 : n < 4294967296 ^ L) (h2 : m < 4294967296 ^ M) (hLM : L ≤ M) : n + m < 4294967296 ^ (M + 1) := by
  have : 4294967296 ^ L ≤ 4294967296 ^ M := Nat.pow_le_pow_right (by omega) hLM
  rw [Nat.pow_succ]; omega
theorem lt_mul {n m L M : Nat} (h1 : n < 4294967296 ^ L) (h2 : m < 4294967296 ^ M) : n * m < 4294967296 ^ (L + M) := by
  rw [Nat.pow_add]; exact Nat.mul_lt_mul_of_lt_of_le h1 (Nat.le_of_lt h2) (Nat.pow_pos (by omega))

theorem add_num {va vb : Value} {n m L : Nat} {w : World} (ha : Num w va n L) (hb : Num w vb m L) (hL : L ≤ 1000000) :
    Calls Tryz.prog 126 #[va, vb] w fun e w' => ∃ v', e = .returned v' ∧ Nrm w' v' (n + m) (L + 1) ∧ Below w.heap.size w w' := by
  have hn := ha.lt
  have hm := hb.lt
  obtain ⟨a, h1, rfl, h3⟩ := ha
  obtain ⟨b, k1, rfl, k3⟩ := hb
  refine (add_any va vb a b w h1 k1 (by omega) (by omega)).mono ?_
  rintro e w1 ⟨v1, rfl, hv1, hb1⟩
  exact ⟨v1, rfl, ⟨hv1, lt_add hn hm (Nat.le_refl _)⟩, hb1⟩

theorem mul_num {va vb : Value} {n m L M : Nat} {w : World} (ha : Num w va n L) (hb : Num w vb m M) (hL : L ≤ 1000000) (hM : M ≤ 1000000) :
    Calls Tryz.prog 123 #[va, vb] w fun e w' => ∃ v', e = .returned v' ∧ Nrm w' v' (n * m) (L + M) ∧ Below w.heap.size w w' := by
  have hn := ha.lt
  have hm := hb.lt
  obtain ⟨a, h1, rfl, h3⟩ := ha
  obtain ⟨b, k1, rfl, k3⟩ := hb
  refine (mul_any va vb a b w h1 k1 (by omega) (by omega)).mono ?_
  rintro e w1 ⟨v1, rfl, hv1, hb1⟩
  exact ⟨v1, rfl, ⟨hv1, lt_mul hn hm⟩, hb1⟩

theorem cmp_num {va vb : Value} {n m L M : Nat} {w : World} (ha : Num w va n L) (hb : Num w vb m M) (hL : L ≤ 1000000) (hM : M ≤ 1000000) :
    Calls Tryz.prog 98 #[va, vb] w fun e w' => e = .returned (.int .i64 (cmpN n m)) ∧ Below w.heap.size w w' := by
  obtain ⟨a, h1, rfl, h3⟩ := ha
  obtain ⟨b, k1, rfl, k3⟩ := hb
  exact cmp_any va vb a b w h1 k1 (by omega) (by omega)

theorem sub_ge {va vb : Value} {n m L M : Nat} {w : World} (ha : Num w va n L) (hb : Num w vb m M) (hL : L ≤ 1000000) (hM : M ≤ 1000000) (hnm : m ≤ n) :
    Calls Tryz.prog 127 #[va, vb] w fun e w' => ∃ v', e = .returned (.tuple #[v', .bool true]) ∧ Nrm w' v' (n - m) L ∧ Below w.heap.size w w' := by
  have hn := ha.lt
  obtain ⟨a, h1, rfl, h3⟩ := ha
  obtain ⟨b, k1, rfl, k3⟩ := hb
  refine (sub_any va vb a b w h1 k1 (by omega) (by omega)).mono ?_
  rintro e w1 ⟨h, hb1⟩
  unfold SubRet at h
  rw [if_pos hnm] at h
  obtain ⟨v1, rfl, hv1⟩ := h
  exact ⟨v1, rfl, ⟨hv1, Nat.lt_of_le_of_lt (Nat.sub_le _ _) hn⟩, hb1⟩

theorem sub_lt {va vb : Value} {n m L M : Nat} {w : World} (ha : Num w va n L) (hb : Num w vb m M) (hL : L ≤ 1000000) (hM : M ≤ 1000000) (hnm : n < m) :
    Calls Tryz.prog 127 #[va, vb] w fun e w' => e = .returned (.tuple #[.slice none 0 0, .bool false]) ∧ Below w.heap.size w w' := by
  obtain ⟨a, h1, rfl, h3⟩ := ha
  obtain ⟨b, k1, rfl, k3⟩ := hb
  refine (sub_any va vb a b w h1 k1 (by omega) (by omega)).mono ?_
  rintro e w1 ⟨h, hb1⟩
  unfold SubRet at h
  rw [if_neg (by omega)] at h
  exact ⟨h, hb1⟩

theorem norm_num {va : Value} {n L : Nat} {w : World} (ha : Num w va n L) (hL : L ≤ 1000000) :
    Calls Tryz.prog 88 #[va] w fun e w' => ∃ v', e = .returned v' ∧ Nrm w' v' n L ∧ Below w.heap.size w w' := by
  have hn := ha.lt
  obtain ⟨a, h1, rfl, h3⟩ := ha
  refine (norm_any va a w h1 (by omega)).mono ?_
  rintro e w1 ⟨v1, rfl, hv1, hb1⟩
  exact ⟨v1, rfl, ⟨hv1, hn⟩, hb1⟩

theorem nrm_of {n L : Nat} {w : World} (hn : n < 18446744073709551616) (hL : 2 ≤ L) :
    Calls Tryz.prog 70 #[.int .u64 n] w fun e w' => ∃ v', e = .returned v' ∧ Nrm w' v' n L ∧ Below w.heap.size w w' := by
  refine (of_any n w hn).mono ?_
  rintro e w1 ⟨v1, rfl, hv1, hb1⟩
  exact ⟨v1, rfl, ⟨hv1, Nat.lt_of_lt_of_le (show n < 4294967296 ^ 2 by omega) (Nat.pow_le_pow_right (by omega) hL)⟩, hb1⟩

end Go.Proofs.YtbnhgmikegdppaaGreat

namespace Go.Proofs.YtbnhgmikegdppaaGreat
open Go.RowKit Go.Proofs.Kit Go.Proofs.Nums

theorem eqN_num {n m : Nat} : eqN (limbs n) (limbs m) = decide (n = m) := by
  unfold eqN
  by_cases h : n = m
  · rw [h]; simp
  · rw [decide_eq_false h, decide_eq_false_iff_not]
    intro h'
    apply h
    rw [← val_limbs n, h', val_limbs]

theorem eq_num {va vb : Value} {n m L M : Nat} {w : World} (ha : Nrm w va n L) (hb : Nrm w vb m M) (hL : L ≤ 1000000) (hM : M ≤ 1000000) (h : n = m) :
    Calls Tryz.prog 82 #[va, vb] w fun e w' => e = .returned (.bool true) ∧ Below w.heap.size w w' := by
  have := req_any va vb _ _ w ha.1 hb.1 (Nat.le_trans ha.len hL) (Nat.le_trans hb.len hM)
  rw [eqN_num, decide_eq_true h] at this; exact this

end Go.Proofs.YtbnhgmikegdppaaGreat

namespace Go.Proofs.YtbnhgmikegdppaaGreat
open Go.RowKit Go.Proofs.Kit Go.Proofs.Nums

/-- The length in bits of a number of L limbs. -/
theorem num_bits {w : World} {v : Value} {n L : Nat} (h : Num w v n L) : (bitsN n).length ≤ 32 * L := by
  refine bits_len_le _ _ ?_
  have := h.lt
  rw [base_pow] at this; exact this

theorem from_num {v : Value} {n L : Nat} {w : World} (h : Num w v n L) (hL : L ≤ 1000) :
    Calls Tryz.prog 109 #[v] w fun e w' => ∃ v', e = .returned v' ∧ BitAt w' v' (bitsN n) ∧ Below w.heap.size w w' := by
  obtain ⟨a, h1, rfl, h3⟩ := h
  exact from_any v a w h1 (by omega)

theorem cmp_less {va vb : Value} {n m L M : Nat} {w : World} (ha : Num w va n L) (hb : Num w vb m M) (hL : L ≤ 1000000) (hM : M ≤ 1000000) (h : n < m) :
    Calls Tryz.prog 98 #[va, vb] w fun e w' => e = .returned (.int .i64 (-1)) ∧ Below w.heap.size w w' := by
  have := cmp_num ha hb hL hM
  rw [cmpN_lt h] at this; exact this

theorem cmp_same {va vb : Value} {n m L M : Nat} {w : World} (ha : Num w va n L) (hb : Num w vb m M) (hL : L ≤ 1000000) (hM : M ≤ 1000000) (h : n = m) :
    Calls Tryz.prog 98 #[va, vb] w fun e w' => e = .returned (.int .i64 0) ∧ Below w.heap.size w w' := by
  have := cmp_num ha hb hL hM
  rw [cmpN_eq h] at this; exact this

theorem cmp_ge {va vb : Value} {n m L M : Nat} {w : World} (ha : Num w va n L) (hb : Num w vb m M) (hL : L ≤ 1000000) (hM : M ≤ 1000000) (h : m ≤ n) :
    Calls Tryz.prog 98 #[va, vb] w fun e w' => ∃ c : Int, 0 ≤ c ∧ c ≤ 1 ∧ e = .returned (.int .i64 c) ∧ Below w.heap.size w w' :=
  (cmp_num ha hb hL hM).mono fun e w' ⟨h1, h2⟩ => ⟨cmpN n m, by unfold cmpN; rw [if_neg (by omega)]; split <;> omega, by unfold cmpN; rw [if_neg (by omega)]; split <;> omega, h1, h2⟩


end Go.Proofs.YtbnhgmikegdppaaGreat

namespace Go.Proofs.YtbnhgmikegdppaaGreat
open Go.ChangeShapes Go.WideShapes Go.ChangeAt Go.RowKit Go.Proofs.Kit Go.Proofs.Nums

/-- A number whose bits are few enough. -/
def Sm (n : Nat) : Prop := (bitsN n).length ≤ 50000

theorem sm_limbs {l : List Nat} (h : Lim l) (hl : l.length ≤ 1000) : Sm (val l) := by
  unfold Sm
  refine Nat.le_trans (bits_len_le (val l) (32 * l.length) ?_) (by omega)
  rw [← base_pow]; exact val_lt l h

theorem bits_val_len {l : List Nat} {k : Nat} (h : Lim l) (hl : l.length ≤ k) : (bitsN (val l)).length ≤ 32 * k := by
  refine Nat.le_trans (bits_len_le (val l) (32 * l.length) ?_) (by omega)
  rw [← base_pow]; exact val_lt l h

theorem bits_lt {n p : Nat} (h : (bitsN n).length ≤ p) : n < 2 ^ p := Nat.lt_of_lt_of_le (bits_lt_pow n) (Nat.pow_le_pow_right (by omega) h)

theorem len_add {n m p : Nat} (h1 : (bitsN n).length ≤ p) (h2 : (bitsN m).length ≤ p) : (bitsN (n + m)).length ≤ p + 1 := by
  apply bits_len_le
  have := bits_lt h1
  have := bits_lt h2
  rw [Nat.pow_succ]; omega

theorem len_mul {n m p q : Nat} (h1 : (bitsN n).length ≤ p) (h2 : (bitsN m).length ≤ q) : (bitsN (n * m)).length ≤ p + q := by
  apply bits_len_le
  have h3 := bits_lt h1
  have h4 := bits_lt h2
  rw [Nat.pow_add]
  exact Nat.mul_lt_mul_of_lt_of_le h3 (Nat.le_of_lt h4) (Nat.pow_pos (by omega))

theorem sm_limb_len {n : Nat} (h : Sm n) : (limbs n).length ≤ 50000 := by
  refine Nat.le_trans (limbs_len_le n (bitsN n).length ?_) h
  exact Nat.lt_of_lt_of_le (bits_lt_pow n) (Nat.pow_le_pow_left (by omega) _)

theorem rcmp_n (va vb : Value) (n m : Nat) (w : World) (ha : BitAt w va (bitsN n)) (hb : BitAt w vb (bitsN m)) (h1 : Sm n) (h2 : Sm m) :
    Calls Tryz.prog 115 #[va, vb] w fun e w' => e = .returned (.int .i64 (cmpN n m)) ∧ Below w.heap.size w w' := by
  have := rcmp_any va vb _ _ w ha hb (Nat.le_trans h1 (by omega)) (Nat.le_trans h2 (by omega))
  rw [bval_bits, bval_bits] at this; exact this

theorem radd_n (va vb : Value) (n m : Nat) (w : World) (ha : BitAt w va (bitsN n)) (hb : BitAt w vb (bitsN m)) (h1 : Sm n) (h2 : Sm m) :
    Calls Tryz.prog 114 #[va, vb] w fun e w' => ∃ v', e = .returned v' ∧ BitAt w' v' (bitsN (n + m)) ∧ Below w.heap.size w w' := by
  have := radd_any va vb _ _ w ha hb (Nat.le_trans h1 (by omega)) (Nat.le_trans h2 (by omega))
  rw [bval_bits, bval_bits] at this; exact this

theorem bits_len_mono {n m : Nat} (h : m ≤ n) : (bitsN m).length ≤ (bitsN n).length := bits_len_le m _ (Nat.lt_of_le_of_lt h (bits_lt_pow n))

theorem rsub_n (va vb : Value) (n m : Nat) (w : World) (ha : BitAt w va (bitsN n)) (hb : BitAt w vb (bitsN m)) (h1 : Sm n) (h2 : m ≤ n) :
    Calls Tryz.prog 116 #[va, vb] w fun e w' => ∃ v', e = .returned v' ∧ BitAt w' v' (bitsN (n - m)) ∧ Below w.heap.size w w' := by
  have := rsub_any va vb _ _ w ha hb (Nat.le_trans h1 (by omega)) (by rw [bval_bits, bval_bits]; exact h2) (by rw [List.take_of_length_le (bits_len_mono h2)])
  rw [bval_bits, bval_bits] at this; exact this

theorem eqN_self (l : List Nat) : eqN l l = true := by unfold eqN; exact decide_eq_true rfl

theorem sm_le {n m : Nat} (h : m ≤ n) (hn : Sm n) : Sm m := Nat.le_trans (bits_len_mono h) hn

set_option maxRecDepth 100000 in
/-- An argument of type api.Nat. -/
theorem nat_open {H : Type} {enc : TypeId × Value → H} {v : Value} {d : DataW H} {p : List MemPlace} {base : Nat} {W : World} (hv : Value.okWide Tryz.prog W .any base 49 v)
    (h : DataW.Trod enc Tryz.prog W 0 (fun _ => true) true 49 v d p) : ∃ l, NatAt W v l := by
  obtain ⟨a, len, cap, rfl⟩ := okWide_slice Tryz.underlying49 hv
  obtain ⟨m, hm⟩ := h
  rcases open_ints Tryz.underlying49 Tryz.underlying119 (by kernel_rfl) hm with ⟨hcs, _⟩ | ⟨x, l, c, zs, hcs, _, hl, hmx, hz, _, hcell, hwz⟩
  · obtain ⟨rfl, rfl, rfl⟩ : a = none ∧ len = 0 ∧ cap = 0 := by
      have : Value.slice a len cap = .slice none 0 0 := List.head_eq_of_cons_eq hcs
      simpa using this
    exact ⟨[], NatAt.nil W⟩
  · obtain ⟨rfl, rfl, rfl⟩ : a = some x ∧ len = l ∧ cap = c := by
      have : Value.slice a len cap = .slice (some x) l c := List.head_eq_of_cons_eq hcs
      simpa using this
    have hz' : zs.length = cap := by simpa using hz
    have hw : ∀ z ∈ zs, 0 ≤ z ∧ z < 4294967296 := fun z hzz => by
      have := hwz z hzz
      simp [Lit.wf] at this
      have e1 : IntKind.u32.min = 0 := by decide
      have e2 : IntKind.u32.max = 4294967295 := by decide
      omega
    refine ⟨(zs.take len).map Int.toNat, ⟨some x, cap, ?_, ?_, ?_, ?_, ?_⟩, ?_⟩
    · simp; omega
    · simp; omega
    · unfold maxLen at hmx; omega
    · simp
    · rintro q hq i u hu
      simp only [Option.some.injEq] at hq
      subst hq
      rw [List.getElem?_map, List.getElem?_map] at hu
      by_cases hi : i < (zs.take len).length
      · rw [List.getElem?_eq_getElem hi] at hu
        simp only [Option.map_some, Option.some.injEq] at hu
        have hil : i < zs.length := by rw [List.length_take] at hi; omega
        rw [hcell i hil, ← hu]
        have e : zs.getD i 0 = zs[i] := by rw [List.getD_eq_getElem?_getD, List.getElem?_eq_getElem hil]; rfl
        have := hw zs[i] (List.getElem_mem hil)
        rw [e, List.getElem_take]
        unfold limbV
        rw [Int.toNat_of_nonneg this.1]
      · rw [List.getElem?_eq_none (by omega)] at hu; simp at hu
    · intro y hy
      obtain ⟨z, hzm, rfl⟩ := List.mem_map.1 hy
      have := hw z (List.mem_of_mem_take hzm)
      omega

end Go.Proofs.YtbnhgmikegdppaaGreat

namespace Go.Proofs.YtbnhgmikegdppaaGreat
open Go.RowKit Go.Proofs.Kit Go.Proofs.Nums

/-- v lies in no block below B. -/
def Fresh (B : Nat) (v : Value) : Prop := ∀ b, v.ownBlock = some b → B ≤ b
theorem Fresh.nil (B : Nat) : Fresh B (.slice none 0 0) := fun b h => by simp [Value.ownBlock] at h
theorem Fresh.owned {w : World} {B : Nat} {e : TypeId} {v : Value} {n : Nat} {cs : List Value} (h : w.ownsRow B e 1 v n cs) : Fresh B v := fun b hb => (h.lt b hb).1
theorem Fresh.mono {B B' : Nat} {v : Value} (h : Fresh B v) (hB : B' ≤ B) : Fresh B' v := fun b hb => Nat.le_trans hB (h b hb)

theorem BitAt.put {w : World} {v : Value} {l : List Bool} {g o : Nat} {u : Value} (h : BitAt w v l) (hg : Fresh (g + 1) v) : BitAt (w.setCell ⟨g, o, none⟩ u) v l :=
  RowAt.same h fun b hb => Below.heap_setCell w _ u b (by have := hg b hb; simp; omega)

set_option maxHeartbeats 1000000 in
theorem rtrim_own (v : Value) (l : List Bool) (w : World) (h : BitAt w v l) (hl : l.length ≤ 1000000) :
    Calls Tryz.prog 120 #[v] w fun e w' => ∃ v', e = .returned v' ∧ BitAt w' v' (bitsN (bval l)) ∧ Fresh w.heap.size v' ∧ Below w.heap.size w w' := by
  rcases h.cases with ⟨rfl, p, cap, rfl, _, _⟩ | ⟨h1, b, off, cap, rfl, hc, hm, hb, hcell⟩
  · clear h hl
    cases p with
    | none =>
      go_enter Tryz.func120, Tryz.ntmps120
      go_wp2_with fail
      refine wp_loop_rounds 1 ?_
      rw [rounds_succ]
      go_wp2_with (at_builtin; refine append_nil er123 (base := w.heap.size) (n := 0) (xs := []) (by rfl) (by rfl) (World.ownsRow_nil _ _ _ _) (by rfl) (by rfl) ?_)
      go_ret
      exact ⟨_, rfl, BitAt.nil w, Fresh.nil _, Below.refl _ _⟩
    | some q =>
      go_enter Tryz.func120, Tryz.ntmps120
      go_wp2_with fail
      refine wp_loop_rounds 1 ?_
      rw [rounds_succ]
      go_wp2_with (at_builtin; (refine append_row er123 (base := w.heap.size) (n := 0) (xs := []) (news := []) (by rfl) (by rfl) (World.ownsRow_nil _ _ _ _) (by rfl) (by rfl) (by rfl) (fun j u h => by simp at h) (fun u h => by simp at h) (by omega) (by omega) (Nat.le_refl _) ?_); intro v' w1 hown1 _ hb1)
      go_ret
      exact ⟨_, rfl, RowAt.owned hown1, Fresh.owned hown1, hb1⟩
  · have H := Lib.hid h
    have HC := Lib.hid hcell
    clear h hcell
    go_enter Tryz.func120, Tryz.ntmps120
    go_wp2_with fail
    go_loop [3] (fun i => ∃ k : Nat, k ≤ l.length ∧ i = .int .i64 k ∧ Hid (bval (l.drop k) = 0)) (fun i => (intOf i).toNat)
    case atStart => exact ⟨l.length, Nat.le_refl _, rfl, Lib.hid (by rw [List.drop_length]; rfl)⟩
    case round =>
      obtain ⟨k, hk, rfl, hP⟩ := hrel
      by_cases h0 : 0 < k
      · obtain ⟨m, rfl⟩ : ∃ m, k = m + 1 := ⟨k - 1, by omega⟩
        have hcm := HC.out m (by omega)
        cases hz : bnth l m
        · have HZ : Hid (bval (l.drop m) = 0) := Lib.hid (bval_drop_step (by omega) hz hP.out)
          go_wp2_with fail
          go_round
          case rel => exact ⟨m, by omega, by go_num, HZ⟩
          case measure => simp [intOf]
        · have hN : Hid (bitsN (bval l) = l.take (m + 1)) := Lib.hid (bits_trim l (m+1) hP.out (bnorm_take hk hz))
          go_wp2_with (at_builtin; (refine append_row er123 (base := w.heap.size) (n := 0) (xs := []) (news := (l.take (m + 1)).map Value.bool) (by rfl) (by rfl) (World.ownsRow_nil _ _ _ _) (by rfl) (by rfl) (by rw [List.length_map, List.length_take]; omega) (bit_cells HC.out (m + 1)) (bool_one _) (by omega) (by omega) (Nat.le_refl _) ?_); intro v' w1 hown1 _ hb1)
          go_ret
          exact ⟨_, rfl, by rw [hN.out]; exact RowAt.owned hown1, Fresh.owned hown1, hb1⟩
      · obtain rfl : k = 0 := by omega
        have hN : Hid (bitsN (bval l) = []) := Lib.hid (by have := hP.out; rw [List.drop_zero] at this; rw [this]; rfl)
        clear h0
        go_wp2_with (at_builtin; (refine append_row er123 (base := w.heap.size) (n := 0) (xs := []) (news := []) (by rfl) (by rfl) (World.ownsRow_nil _ _ _ _) (by rfl) (by rfl) (by rfl) (fun j u h => by simp at h) (fun u h => by simp at h) (by omega) (by omega) (Nat.le_refl _) ?_); intro v' w1 hown1 _ hb1)
        go_ret
        exact ⟨_, rfl, by rw [hN.out]; exact RowAt.owned hown1, Fresh.owned hown1, hb1⟩

set_option maxHeartbeats 4000000 in
theorem rsub_own (va vb : Value) (n m : Nat) (w : World) (ha : BitAt w va (bitsN n)) (hb : BitAt w vb (bitsN m)) (h1 : (bitsN n).length ≤ 100000) (h2 : m ≤ n) :
    Calls Tryz.prog 116 #[va, vb] w fun e w' => ∃ v', e = .returned v' ∧ BitAt w' v' (bitsN (n - m)) ∧ Fresh w.heap.size v' ∧ Below w.heap.size w w' := by
  have hge : bval (bitsN m) ≤ bval (bitsN n) := by rw [bval_bits, bval_bits]; exact h2
  have hba : bval (bitsN m) = bval ((bitsN m).take (bitsN n).length) := by rw [List.take_of_length_le (bits_len_mono h2)]
  obtain ⟨a, hA⟩ : ∃ a, bitsN n = a := ⟨_, rfl⟩
  obtain ⟨b, hB⟩ : ∃ b, bitsN m = b := ⟨_, rfl⟩
  have hR : Hid (bval a - bval b = n - m) := Lib.hid (by rw [← hA, ← hB, bval_bits, bval_bits])
  rw [hA] at ha hge hba h1
  rw [hB] at hb hge hba
  clear hA hB h2
  obtain ⟨p1, c1, rfl⟩ := ha.shape
  obtain ⟨p2, c2, rfl⟩ := hb.shape
  have HA := Lib.hid ha
  have HB := Lib.hid hb
  have HGE := Lib.hid hge
  have HBA := Lib.hid hba
  clear ha hb hge hba
  go_enter Tryz.func116, Tryz.ntmps116
  go_wp2_with fail
  go_loopw [5, 6, 7] (fun v c i wr => ∃ k : Nat, ∃ cb : Bool, ∃ o : List Bool, k ≤ a.length ∧ o.length = k ∧ i = .int .i64 k ∧ c = .bool cb ∧ wr.ownsRow w.heap.size 4 1 v k (o.map Value.bool) ∧ Below w.heap.size w wr ∧
      Hid (bval o + bval (b.take k) = bval (a.take k) + 2 ^ k * bN cb)) (fun _ _ i _ => a.length - (intOf i).toNat)
  case atStart => exact ⟨0, false, [], by omega, rfl, rfl, rfl, World.ownsRow_nil _ _ _ _, Below.refl _ _, Lib.hid (by simp [bval, bN])⟩
  case round =>
    obtain ⟨k, cb, o, hk, hol, rfl, rfl, hown, hbel, hP⟩ := hrel
    have HOL := Lib.hid hol
    clear hol
    by_cases hlt : k < a.length
    · have LA := Lib.hid (at_any _ a k wr (HA.out.keep hbel))
      have LB := Lib.hid (at_any _ b k wr (HB.out.keep hbel))
      have hst := bsub_step (a := a) (b := b) HOL.out hP.out
      have HST := Lib.hid hst
      clear hst
      cases hx : bnth a k <;> cases hy : bnth b k <;> cases cb
      all_goals
        go_wp2_with (first
          | (go_at_call 125; ((with_reducible refine LA.out.mono ?_); rintro e w4 ⟨rfl, rfl⟩))
          | (go_at_call 125; ((with_reducible refine LB.out.mono ?_); rintro e w5 ⟨rfl, rfl⟩))
          | (at_builtin; go_must (refine append_one er123 rfl rfl hown rfl rfl rfl (by simp [Value.oneCell']) (by omega) (by omega) hbel.size ?_); intro v' w1 hown1 _ hb1 hne1))
        go_roundw
        case rel =>
          refine ⟨k + 1, _, o ++ [_], by omega, by rw [List.length_append, HOL.out]; rfl, by go_num, rfl, by rw [List.map_append]; exact hown1, hbel.trans hb1, Lib.hid ?_⟩
          have := HST.out
          rw [hx, hy] at this
          exact this
        case measure => simp [intOf]; omega
    · obtain rfl : k = a.length := by omega
      have hval : Hid (bval o = n - m) := Lib.hid (by
        have h1 := hP.out
        have h2 := HGE.out
        rw [bval_take_all (l := a) (by omega), ← HBA.out] at h1
        have h3 := bval_lt o
        rw [HOL.out] at h3
        rw [← hR.out]
        cases cb
        · simp [bN] at h1; omega
        · simp [bN] at h1; omega)
      have HBT : Hid (BitAt wr u5 o) := Lib.hid (RowAt.owned hown)
      have hol2 : o.length ≤ 1000000 := by rw [HOL.out]; omega
      have HL := Lib.hid hol2
      clear hown hol2
      go_wp2_with (go_at_call 120; refine (rtrim_own _ _ _ HBT.out HL.out).mono ?_; rw [hval.out]; rintro e w4 ⟨v4, rfl, hv4, hf4, hb4⟩)
      go_ret
      exact ⟨_, rfl, hv4, hf4.mono hbel.size, bel2' hbel hb4⟩

end Go.Proofs.YtbnhgmikegdppaaGreat

namespace Go.Proofs.YtbnhgmikegdppaaGreat
open Go.RowKit Go.Proofs.Kit Go.Proofs.Nums

theorem bit_val (m : Nat) : Value.bool ((m : Int) % 2 == 1) = Value.bool (m % 2 == 1) := by
  congr 1
  rw [Bool.eq_iff_iff]; simp; omega

set_option maxHeartbeats 2000000 in
theorem small_f (N : Nat) (w : World) (hN : N ≤ 1000000) :
    Calls Tryz.prog 117 #[.int .i64 N] w fun e w' => ∃ v', e = .returned v' ∧ BitAt w' v' (bitsN N) ∧ Fresh w.heap.size v' ∧ Below w.heap.size w w' := by
  go_enter Tryz.func117, Tryz.ntmps117
  go_wp2_with fail
  go_loopw [0, 3] (fun nv bv wr => ∃ m k : Nat, ∃ o : List Bool, m ≤ N ∧ k + m ≤ N ∧ nv = .int .i64 m ∧ wr.ownsRow w.heap.size 4 1 bv k (o.map Value.bool) ∧ Below w.heap.size w wr ∧ Hid (bitsN N = o ++ bitsN m)) (fun nv _ _ => (intOf nv).toNat)
  case atStart => exact ⟨N, 0, [], by omega, by omega, rfl, World.ownsRow_nil _ _ _ _, Below.refl _ _, Lib.hid rfl⟩
  case round =>
    obtain ⟨m, k, o, hm, hkm, rfl, hown, hbel, hP⟩ := hrel
    by_cases h0 : 0 < m
    · have HS : Hid (bitsN N = (o ++ [(m % 2 == 1)]) ++ bitsN (m / 2)) := Lib.hid (by rw [hP.out, bits_pos m (by omega), List.append_assoc]; rfl)
      go_wp2_with (at_builtin; go_must (refine append_one er123 rfl rfl hown rfl rfl rfl (by simp [Value.oneCell']) (by omega) (by omega) hbel.size ?_); intro v' w1 hown1 _ hb1 hne1)
      go_roundw
      case rel =>
        refine ⟨m / 2, k + 1, o ++ [(m % 2 == 1)], by omega, by omega, by go_num, ?_, hbel.trans hb1, HS⟩
        rw [List.map_append, List.map_cons, List.map_nil, ← bit_val]
        exact hown1
      case measure => simp [intOf] <;> omega
    · obtain rfl : m = 0 := by omega
      have hE : Hid (o = bitsN N) := Lib.hid (by rw [hP.out, bits_zero, List.append_nil])
      have HR := Lib.hid (RowAt.owned hown)
      have HF := Lib.hid (Fresh.owned hown)
      clear hown
      go_wp2_with fail
      go_ret
      exact ⟨_, rfl, by rw [← hE.out]; exact HR.out, HF.out, hbel⟩

theorem small_any (N : Nat) (w : World) (hN : N ≤ 1000000) :
    Calls Tryz.prog 117 #[.int .i64 N] w fun e w' => ∃ v', e = .returned v' ∧ BitAt w' v' (bitsN N) ∧ Below w.heap.size w w' :=
  (small_f N w hN).mono fun _ _ ⟨v', h1, h2, _, h3⟩ => ⟨v', h1, h2, h3⟩

/-- An array of bits of the call's own. -/
def OwnBits (w : World) (base g n cap : Nat) (o : List Bool) : Prop := o.length = n ∧ w.ownsRow base 4 1 (.slice (some ⟨g, 0, none⟩) n cap) n (o.map Value.bool)

theorem OwnBits.read {w : World} {base g n cap : Nat} {o : List Bool} (h : OwnBits w base g n cap o) : BitAt w (.slice (some ⟨g, 0, none⟩) n cap) o := RowAt.owned h.2
theorem OwnBits.cell {w : World} {base g n cap : Nat} {o : List Bool} (h : OwnBits w base g n cap o) {j : Nat} (hj : j < n) : w.cell? ⟨g, j, none⟩ = some (.bool (bnth o j)) := by
  rw [h.2.cellAt j (by omega), List.getElem?_map, List.getElem?_eq_getElem (by rw [h.1]; exact hj), bnth_lt (by rw [h.1]; exact hj)]; rfl
theorem OwnBits.free {w : World} {base g n cap : Nat} {o : List Bool} (h : OwnBits w base g n cap o) (j : Nat) : w.frozen? ⟨g, j, none⟩ = false := h.2.frozenAt j
theorem OwnBits.put {w : World} {base g n cap : Nat} {o : List Bool} (h : OwnBits w base g n cap o) (j : Nat) (x : Bool) :
    OwnBits (w.setCell ⟨g, j, none⟩ (.bool x)) base g n cap (o.set j x) ∧ Below base w (w.setCell ⟨g, j, none⟩ (.bool x)) := by
  have hs := h.2.stored j (.bool x)
  refine ⟨⟨by rw [List.length_set]; exact h.1, ?_⟩, ?_⟩
  · rw [List.map_set]; exact hs.1
  · exact (Below.refl base w).setCell (h.2.lt g rfl).1 _
theorem OwnBits.lt {w : World} {base g n cap : Nat} {o : List Bool} (h : OwnBits w base g n cap o) : base ≤ g ∧ g < w.heap.size := h.2.lt g rfl
theorem OwnBits.keep {w w' : World} {base g n cap : Nat} {o : List Bool} (h : OwnBits w base g n cap o) (hb : Below w.heap.size w w') : OwnBits w' base g n cap o := ⟨h.1, ownsRow_below h.2 hb⟩
theorem OwnBits.made {w : World} {base g n cap : Nat} (h : w.ownsRow base 4 1 (.slice (some ⟨g, 0, none⟩) n cap) n (madeCells (Value.bool false).cells (n * 1)).toList) : OwnBits w base g n cap (List.replicate n false) := by
  refine ⟨List.length_replicate, ?_⟩
  rw [show (Value.bool false).cells = #[.bool false] from rfl, toList_madeCells_one, Nat.mul_one] at h
  rw [List.map_replicate]; exact h

theorem bits_len2 {R m b : Nat} (h : R < m) (hb : b ≤ 1) (hm : (bitsN m).length ≤ 40000) : (bitsN (b + 2 * R)).length ≤ 40001 := by
  refine Nat.le_trans (bits_len_le _ ((bitsN m).length + 1) ?_) (by omega)
  have := bits_lt_pow m
  rw [Nat.pow_succ]; omega

end Go.Proofs.YtbnhgmikegdppaaGreat

namespace Go.Proofs.YtbnhgmikegdppaaGreat
open Go.RowKit Go.Proofs.Kit Go.Proofs.Nums

theorem lit_bit (w : World) (x : Bool) : (w.alloc (.cells #[.bool x] 4)).ownsRow w.heap.size 4 1 (.slice (some ⟨w.heap.size, 0, none⟩) 1 1) 1 [.bool x] :=
  World.ownsRow_lit w #[.bool x] 1 (Nat.le_refl _) (by unfold maxLen; omega) rfl

set_option maxHeartbeats 4000000 in
theorem rdiv_f (va vb : Value) (n m : Nat) (w : World) (ha : BitAt w va (bitsN n)) (hb : BitAt w vb (bitsN m)) (h1 : (bitsN n).length ≤ 40000) (h2 : (bitsN m).length ≤ 40000) (hm : 0 < m) :
    Calls Tryz.prog 119 #[va, vb] w fun e w' => ∃ vq vr, e = .returned (.tuple #[vq, vr]) ∧ BitAt w' vq (bitsN (n / m)) ∧ BitAt w' vr (bitsN (n % m)) ∧ Fresh w.heap.size vq ∧ Fresh w.heap.size vr ∧ Below w.heap.size w w' := by
  obtain ⟨a, hA⟩ : ∃ a, bitsN n = a := ⟨_, rfl⟩
  have hN : Hid (bval a = n) := Lib.hid (by rw [← hA, bval_bits])
  rw [hA] at ha h1
  have H2 := Lib.hid h2
  have HM := Lib.hid hm
  have HST := Lib.hid (BDiv.start a m hm)
  clear hA h2 hm
  obtain ⟨p1, c1, rfl⟩ := ha.shape
  have HA := Lib.hid ha
  have HB := Lib.hid hb
  clear ha hb
  go_enter Tryz.func119, Tryz.ntmps119
  go_wp2_with (at_make; go_must (refine make_any er123 rfl rfl rfl rfl (by omega) (by omega) (by omega) ?_); intro w3 hown3 hb3)
  have hown := OwnBits.made hown3
  clear hown3
  go_loopw [7, 8] (fun rv i wr => ∃ k R : Nat, ∃ q : List Bool, k ≤ a.length ∧ i = .int .i64 ((k : Int) - 1) ∧ Hid (BDiv a q m R k) ∧ OwnBits wr w.heap.size w.heap.size a.length a.length q ∧ BitAt wr rv (bitsN R) ∧ Fresh (w.heap.size + 1) rv ∧ Below w.heap.size w wr) (fun _ i _ => (intOf i + 1).toNat)
  case atStart => exact ⟨a.length, 0, _, by omega, by go_num, HST, hown, BitAt.nil _, Fresh.nil _, hb3⟩
  case round =>
    obtain ⟨k, R, q, hk, rfl, hP, hO, hR, hF, hbel⟩ := hrel
    by_cases h0 : 0 < k
    · obtain ⟨j, rfl⟩ : ∃ j, k = j + 1 := ⟨k - 1, by omega⟩
      rw [show ((j + 1 : Nat) : Int) - 1 = (j : Int) by omega]
      rcases (HA.out.keep hbel).cases with ⟨hx0, _⟩ | ⟨_, b1, o1, k1, hv1, hk1, hm1, hb1, hcell1⟩
      · rw [hx0] at hk; simp at hk
      simp only [Value.slice.injEq] at hv1
      obtain ⟨rfl, _, rfl⟩ := hv1
      have q1 := hcell1 j (by omega)
      clear hcell1
      obtain ⟨bj, hbj⟩ : ∃ bj, bnth a j = bj := ⟨_, rfl⟩
      rw [hbj] at q1
      have HBJ := Lib.hid hbj
      have HRA : Hid (RowAt (wr.alloc (.cells #[.bool bj] 4)) u7 ((bitsN R).map Value.bool)) := Lib.hid (RowAt.alloc hR _)
      have hX := bits_len2 hP.out.2.2.1 (bN_le bj) H2.out
      obtain ⟨X, hXX⟩ : ∃ X, bN bj + 2 * R = X := ⟨_, rfl⟩
      have hRL := bits_len_mono (show R ≤ X by omega)
      rw [hXX] at hX
      have HX := Lib.hid hX
      have HRL : Hid ((bitsN R).length ≤ 40001) := Lib.hid (by omega)
      have TRIM : Hid (∀ v w, BitAt w v (bj :: bitsN R) → Calls Tryz.prog 120 #[v] w fun e w' => ∃ v', e = .returned v' ∧ BitAt w' v' (bitsN X) ∧ Fresh w.heap.size v' ∧ Below w.heap.size w w') := Lib.hid (fun v w h => by
        have := rtrim_own v _ w h (by rw [List.length_cons]; have := HRL.out; omega)
        rw [bval, bval_bits, hXX] at this; exact this)
      have HOw := Lib.hid hO
      have OLT := hO.lt
      have HXX := Lib.hid hXX
      clear hR hO hbj hX hXX hRL
      by_cases hlt : X < m
      · have CMP : Hid (∀ v w, BitAt w v (bitsN X) → BitAt w vb (bitsN m) → Calls Tryz.prog 115 #[v, vb] w fun e w' => e = .returned (.int .i64 (-1)) ∧ Below w.heap.size w w') := Lib.hid (fun v w h h' => by
          have := rcmp_n v vb X m w h h' (Nat.le_trans HX.out (by omega)) (Nat.le_trans H2.out (by omega))
          rw [cmpN_lt hlt] at this; exact this)
        have HN : Hid (BDiv a q m X j) := Lib.hid (by have := BDiv.less hP.out (by omega) (by rw [HBJ.out, HXX.out]; exact hlt); rw [HBJ.out, HXX.out] at this; exact this)
        clear hlt
        go_wp2_with (first
          | (at_builtin; go_must (refine append_read er123 (by rfl) (by rfl) (lit_bit wr bj) (by rfl) HRA.out (by rfl) (bool_one _) (by rw [List.length_map]; have := HRL.out; omega) (by rw [List.length_map]; have := HRL.out; omega) (by simp) ?_); intro v' w1 hown1 hb1; have hv1 : BitAt w1 v' (bj :: bitsN R) := RowAt.owned hown1; clear hown1; have hb1' := below_new hb1)
          | (go_at_call 120; ((with_reducible refine (TRIM.out _ _ hv1).mono ?_); rintro e w4 ⟨v4, rfl, hv4, hf4, hb4⟩; have hb4' := bel2' hb1' hb4; have hb4'' := bel2' hbel hb4'))
          | (go_at_call 115; ((with_reducible refine (CMP.out _ _ hv4 (HB.out.keep hb4'')).mono ?_); rintro e w5 ⟨rfl, hb5⟩; have hb5' := bel2' hb4' hb5; have hb5'' := bel2' hb4'' hb5)))
        go_roundw
        case rel =>
          exact ⟨j, X, q, by omega, by go_num, HN, HOw.out.keep hb5', hv4.keep hb5, hf4.mono (by have := hb1'.size; omega), hb5''⟩
        case measure => simp [intOf] <;> omega
      · obtain ⟨c, hc⟩ : ∃ c, cmpN X m = c := ⟨_, rfl⟩
        have hc0 : 0 ≤ c := by rw [← hc]; unfold cmpN; rw [if_neg hlt]; split <;> omega
        have CMP : Hid (∀ v w, BitAt w v (bitsN X) → BitAt w vb (bitsN m) → Calls Tryz.prog 115 #[v, vb] w fun e w' => e = .returned (.int .i64 c) ∧ Below w.heap.size w w') := Lib.hid (fun v w h h' => by
          have := rcmp_n v vb X m w h h' (Nat.le_trans HX.out (by omega)) (Nat.le_trans H2.out (by omega))
          rw [hc] at this; exact this)
        have SUB : Hid (∀ v w, BitAt w v (bitsN X) → BitAt w vb (bitsN m) → Calls Tryz.prog 116 #[v, vb] w fun e w' => ∃ v', e = .returned v' ∧ BitAt w' v' (bitsN (X - m)) ∧ Fresh w.heap.size v' ∧ Below w.heap.size w w') := Lib.hid (fun v w h h' =>
          rsub_own v vb X m w h h' (Nat.le_trans HX.out (by omega)) (by omega))
        have HN : Hid (BDiv a (q.set j true) m (X - m) j) := Lib.hid (by have := BDiv.more hP.out (by omega) (by rw [HBJ.out, HXX.out]; omega); rw [HBJ.out, HXX.out] at this; exact this)
        clear hlt hc
        go_wp2_with (first
          | (at_builtin; go_must (refine append_read er123 (by rfl) (by rfl) (lit_bit wr bj) (by rfl) HRA.out (by rfl) (bool_one _) (by rw [List.length_map]; have := HRL.out; omega) (by rw [List.length_map]; have := HRL.out; omega) (by simp) ?_); intro v' w1 hown1 hb1; have hv1 : BitAt w1 v' (bj :: bitsN R) := RowAt.owned hown1; clear hown1; have hb1' := below_new hb1)
          | (go_at_call 120; ((with_reducible refine (TRIM.out _ _ hv1).mono ?_); rintro e w4 ⟨v4, rfl, hv4, hf4, hb4⟩; have hb4' := bel2' hb1' hb4; have hb4'' := bel2' hbel hb4'))
          | (go_at_call 115; ((with_reducible refine (CMP.out _ _ hv4 (HB.out.keep hb4'')).mono ?_); rintro e w5 ⟨rfl, hb5⟩; have hb5' := bel2' hb4' hb5; have hb5'' := bel2' hb4'' hb5))
          | (go_at_call 116; ((with_reducible refine (SUB.out _ _ (hv4.keep hb5) (HB.out.keep hb5'')).mono ?_); rintro e w6 ⟨v6, rfl, hv6, hf6, hb6⟩; have hb6' := bel2' hb5' hb6; have hb6'' := bel2' hb5'' hb6; have hO6 := HOw.out.keep hb6'; have hcl := hO6.cell (j := j) (by omega); have hfr := hO6.free j; have hput := hO6.put j true; have hf6' : Fresh (w.heap.size + 1) v6 := hf6.mono (by have := hb5'.size; omega); have hr6 : BitAt (w6.setCell ⟨w.heap.size, j, none⟩ (.bool true)) v6 (bitsN (X - m)) := BitAt.put hv6 hf6'; have HO6 := Lib.hid hO6; have HPUT := Lib.hid hput; clear hO6 hput)))
        go_roundw
        case rel =>
          exact ⟨j, X - m, q.set j true, by omega, by go_num, HN, HPUT.out.1, hr6, hf6', hb6''.trans HPUT.out.2⟩
        case measure => simp [intOf] <;> omega
    · obtain rfl : k = 0 := by omega
      have hD : Hid (bval q = n / m ∧ R = n % m) := Lib.hid (by have := BDiv.done hP.out; rw [hN.out] at this; exact this)
      have HQ := Lib.hid hO.read
      have HR := Lib.hid hR
      have HQL : Hid (q.length ≤ 1000000) := Lib.hid (by rw [hO.1]; omega)
      clear hO hR
      go_wp2_with (go_at_call 120; refine (rtrim_own _ _ _ HQ.out HQL.out).mono ?_; rw [hD.out.1]; rintro e w4 ⟨v4, rfl, hv4, hf4, hb4⟩)
      go_ret2
      exact ⟨_, _, rfl, hv4, by rw [← hD.out.2]; exact HR.out.keep hb4, hf4.mono hbel.size, hF.mono (Nat.le_succ _), bel2' hbel hb4⟩

theorem rdiv_n (va vb : Value) (n m : Nat) (w : World) (ha : BitAt w va (bitsN n)) (hb : BitAt w vb (bitsN m)) (h1 : (bitsN n).length ≤ 40000) (h2 : (bitsN m).length ≤ 40000) (hm : 0 < m) :
    Calls Tryz.prog 119 #[va, vb] w fun e w' => ∃ vq vr, e = .returned (.tuple #[vq, vr]) ∧ BitAt w' vq (bitsN (n / m)) ∧ BitAt w' vr (bitsN (n % m)) ∧ Below w.heap.size w w' :=
  (rdiv_f va vb n m w ha hb h1 h2 hm).mono fun _ _ ⟨vq, vr, h1, h2, h3, _, _, h4⟩ => ⟨vq, vr, h1, h2, h3, h4⟩

end Go.Proofs.YtbnhgmikegdppaaGreat

namespace Go.Proofs.YtbnhgmikegdppaaGreat
open Go.RowKit Go.Proofs.Kit Go.Proofs.Nums

theorem RowAt.uniq {w : World} {v : Value} {cs cs' : List Value} (h : RowAt w v cs) (h' : RowAt w v cs') : cs = cs' := by
  obtain ⟨p, c, rfl, h1, h2, h3, h4⟩ := h
  obtain ⟨p', c', hv, k1, k2, k3, k4⟩ := h'
  simp only [Value.slice.injEq] at hv
  obtain ⟨rfl, hl, rfl⟩ := hv
  refine List.ext_getElem hl fun i i1 i2 => ?_
  cases p with
  | none => have := h3 rfl; omega
  | some q =>
    have e1 := h4 q rfl i _ (List.getElem?_eq_getElem i1)
    have e2 := k4 q rfl i _ (List.getElem?_eq_getElem i2)
    rw [e1] at e2
    exact Option.some.inj e2

theorem map_bool_inj : ∀ {a b : List Bool}, a.map Value.bool = b.map Value.bool → a = b
  | [], [], _ => rfl
  | [], _ :: _, h => by simp at h
  | _ :: _, [], h => by simp at h
  | x :: a, y :: b, h => by
    simp only [List.map_cons, List.cons.injEq, Value.bool.injEq] at h
    rw [h.1, map_bool_inj h.2]

theorem map_limb_inj : ∀ {a b : List Nat}, a.map limbV = b.map limbV → a = b
  | [], [], _ => rfl
  | [], _ :: _, h => by simp at h
  | _ :: _, [], h => by simp at h
  | x :: a, y :: b, h => by
    simp only [List.map_cons, List.cons.injEq, limbV, Value.int.injEq] at h
    rw [show x = y by omega, map_limb_inj h.2]

theorem BitAt.uniq {w : World} {v : Value} {n m : Nat} (h : BitAt w v (bitsN n)) (h' : BitAt w v (bitsN m)) : n = m := by
  have := map_bool_inj (RowAt.uniq h h')
  rw [← bval_bits n, this, bval_bits]

theorem NatAt.uniq {w : World} {v : Value} {n m : Nat} (h : NatAt w v (limbs n)) (h' : NatAt w v (limbs m)) : n = m := by
  have := map_limb_inj (RowAt.uniq h.1 h'.1)
  rw [← val_limbs n, this, val_limbs]

/-- The number that v denotes in w. -/
noncomputable def bitNum (w : World) (v : Value) : Nat := by
  classical exact if h : ∃ n, BitAt w v (bitsN n) then Classical.choose h else 0
theorem bitNum_eq {w : World} {v : Value} {n : Nat} (h : BitAt w v (bitsN n)) : bitNum w v = n := by
  have hx : ∃ n, BitAt w v (bitsN n) := ⟨n, h⟩
  unfold bitNum
  rw [dif_pos hx]
  exact BitAt.uniq (Classical.choose_spec hx) h
noncomputable def limbNum (w : World) (v : Value) : Nat := by
  classical exact if h : ∃ n, NatAt w v (limbs n) then Classical.choose h else 0
theorem limbNum_eq {w : World} {v : Value} {n : Nat} (h : NatAt w v (limbs n)) : limbNum w v = n := by
  have hx : ∃ n, NatAt w v (limbs n) := ⟨n, h⟩
  unfold limbNum
  rw [dif_pos hx]
  exact NatAt.uniq (Classical.choose_spec hx) h

theorem rtrim_n (v : Value) (n : Nat) (w : World) (h : BitAt w v (bitsN n)) (hl : (bitsN n).length ≤ 1000000) :
    Calls Tryz.prog 120 #[v] w fun e w' => ∃ v', e = .returned v' ∧ BitAt w' v' (bitsN n) ∧ Below w.heap.size w w' := by
  have := rtrim_any v _ w h hl
  rw [bval_bits] at this; exact this

theorem bits_len_pos {n : Nat} (h : 0 < n) : 0 < (bitsN n).length := List.length_pos_iff.2 fun e => by have := bits_eq_nil.1 e; omega

set_option maxHeartbeats 2000000 in
theorem rgcd_n (va vb : Value) (n m : Nat) (w : World) (ha : BitAt w va (bitsN n)) (hb : BitAt w vb (bitsN m)) (h1 : (bitsN n).length ≤ 40000) (h2 : (bitsN m).length ≤ 40000) :
    Calls Tryz.prog 118 #[va, vb] w fun e w' => ∃ v', e = .returned v' ∧ BitAt w' v' (bitsN (Nat.gcd n m)) ∧ Below w.heap.size w w' := by
  obtain ⟨G, hG⟩ : ∃ G, Nat.gcd n m = G := ⟨_, rfl⟩
  have HG := Lib.hid hG
  rw [hG]
  have H1 := Lib.hid h1
  have H2 := Lib.hid h2
  clear hG h1 h2
  go_enter Tryz.func118, Tryz.ntmps118
  go_wp2_with fail
  go_loopw [0, 1] (fun av bv wr => ∃ x y : Nat, BitAt wr av (bitsN x) ∧ BitAt wr bv (bitsN y) ∧ Hid ((bitsN x).length ≤ 40000) ∧ Hid ((bitsN y).length ≤ 40000) ∧ Hid (Nat.gcd x y = G) ∧ Below w.heap.size w wr) (fun _ bv wr => bitNum wr bv)
  case atStart => exact ⟨n, m, ha, hb, H1, H2, HG, Below.refl _ _⟩
  case round =>
    obtain ⟨x, y, hx, hy, hxl, hyl, hgc, hbel⟩ := hrel
    obtain ⟨p2, c2, rfl⟩ := hy.shape
    by_cases h0 : 0 < y
    · have hpos := bits_len_pos h0
      have HN : Hid (Nat.gcd y (x % y) = G) := Lib.hid (by rw [gcd_step]; exact hgc.out)
      have HL : Hid ((bitsN (x % y)).length ≤ 40000) := Lib.hid (Nat.le_trans (bits_len_mono (Nat.le_of_lt (Nat.mod_lt x h0))) hyl.out)
      have D := Lib.hid (rdiv_n _ _ x y wr hx hy hxl.out hyl.out h0)
      have HM := Lib.hid (bitNum_eq hy)
      have HLT := Lib.hid (Nat.mod_lt x h0)
      have HY := Lib.hid hy
      clear hx hy h0
      go_wp2_with (go_at_call 119; ((with_reducible refine D.out.mono ?_); rintro e w4 ⟨vq, vr, rfl, hvq, hvr, hb4⟩))
      go_roundw
      case rel => exact ⟨y, x % y, HY.out.keep hb4, hvr, hyl, HL, HN, bel2' hbel hb4⟩
      case measure => rw [HM.out, bitNum_eq hvr]; exact HLT.out
    · obtain rfl : y = 0 := by omega
      have HX : Hid (x = G) := Lib.hid (by rw [← hgc.out, Nat.gcd_zero_right])
      have T := Lib.hid (rtrim_n _ x wr hx (Nat.le_trans hxl.out (by omega)))
      have hzz : (bitsN 0).length = 0 := rfl
      clear hx hy h0
      go_wp2_with (go_at_call 120; ((with_reducible refine T.out.mono ?_); rintro e w4 ⟨v4, rfl, hv4, hb4⟩))
      go_ret
      exact ⟨_, rfl, by rw [← HX.out]; exact hv4, bel2' hbel hb4⟩

end Go.Proofs.YtbnhgmikegdppaaGreat
