import Derived.Test.YteobjelenfjifaaDoorDh
import Derived.IntWalk
namespace Go.Proofs.YteobjelenfjifaaDoor
open Go.RowKit Go.Proofs.Kit Go.Proofs.Nums

theorem cell_drewN {w : World} {d b o : Nat} {v : Value} (h : w.cell? ⟨b, o, none⟩ = some v) : (w.drewN d).cell? ⟨b, o, none⟩ = some v :=
  cell_keep (below_drewN (Below.refl _ _) d) h

/-- What guess finds. -/
def GuessOk (u v : List Nat) (j q : Nat) : Prop := q < 4294967296 ∧ val (u.drop j) < (q + 1) * val v ∧ q * val v ≤ val (u.drop j) + val v

set_option maxRecDepth 1000000 in
set_option maxHeartbeats 4000000 in
theorem guess_any (vu vv : Value) (u v : List Nat) (j : Nat) (w : World) (hu : NatAt w vu u) (hv : NatAt w vv v) (hn : 2 ≤ v.length) (hj : j + v.length < u.length) (hul : u.length ≤ 1000001)
    (htop : 2147483648 ≤ nth v (v.length - 1)) (hz : val (u.drop (j + v.length + 1)) = 0) (hlt : val (u.drop j) < val v * 4294967296) :
    Calls Tryd.prog 61 #[vu, vv, .int .i64 j] w fun e w' => ∃ q : Nat, e = .returned (.int .u64 q) ∧ Hid (GuessOk u v j q) ∧ ∃ d, w' = w.drewN d := by
  have eV := val_two v hn
  have eU := val_three u j v.length hn hj hz
  have hVl := val_take_lt v hv.2 (v.length - 2) (by omega)
  have hUl := val_take_lt (u.drop j) (hu.2.drop j) (v.length - 2) (by rw [List.length_drop]; omega)
  rcases hu.cases with ⟨h0, _⟩ | ⟨_, b1, o1, k1, rfl, hk1, hm1, hb1, hcell1⟩
  · rw [h0] at hj; simp at hj
  rcases hv.cases with ⟨h0, _⟩ | ⟨_, b2, o2, k2, rfl, hk2, hm2, hb2, hcell2⟩
  · rw [h0] at hn; simp at hn
  have p1 := hcell1 (j + v.length) hj
  have p2 := hcell1 (j + v.length - 1) (by omega)
  have p3 := hcell1 (j + v.length - 2) (by omega)
  have p4 := hcell2 (v.length - 1) (by omega)
  have p5 := hcell2 (v.length - 2) (by omega)
  have l1 := hu.2.nth (j + v.length)
  have l2 := hu.2.nth (j + v.length - 1)
  have l3 := hu.2.nth (j + v.length - 2)
  have l4 := hv.2.nth (v.length - 1)
  have l5 := hv.2.nth (v.length - 2)
  clear hcell1 hcell2 hu hv hz
  obtain ⟨u0, hu0⟩ : ∃ x, nth u (j + v.length) = x := ⟨_, rfl⟩
  obtain ⟨u1, hu1⟩ : ∃ x, nth u (j + v.length - 1) = x := ⟨_, rfl⟩
  obtain ⟨u2, hu2⟩ : ∃ x, nth u (j + v.length - 2) = x := ⟨_, rfl⟩
  obtain ⟨v1, hv1⟩ : ∃ x, nth v (v.length - 1) = x := ⟨_, rfl⟩
  obtain ⟨v2, hv2⟩ : ∃ x, nth v (v.length - 2) = x := ⟨_, rfl⟩
  rw [hu0] at p1 l1 eU
  rw [hu1] at p2 l2 eU
  rw [hu2] at p3 l3 eU
  rw [hv1] at p4 l4 eV htop
  rw [hv2] at p5 l5 eV
  obtain ⟨top, htp⟩ : ∃ top, u0 * 4294967296 + u1 = top := ⟨_, rfl⟩
  rw [htp] at eU
  have htt : top < v1 * 4294967296 + 4294967296 := guess_top l5 hVl (by rw [← eU, ← eV]; exact hlt)
  have hv1p : 0 < v1 := by omega
  have g0 := guess_first (top := top) (v2 := v2) (Vl := val (v.take (v.length - 2))) hv1p l3 hUl
  rw [← eU, ← eV] at g0
  have gl := guess_le htop htt
  have G0 : Hid (val (u.drop j) < (top / v1 + 1) * val v) := Lib.hid g0
  have G1 : Hid (∀ q, 4294967296 ≤ q → val (u.drop j) < (q - 1 + 1) * val v) := Lib.hid fun q hq => guess_big hlt hq
  have G2 : Hid (∀ q r, q * v1 + r = top → r * 4294967296 + u2 < q * v2 → val (u.drop j) < (q - 1 + 1) * val v) := Lib.hid fun q r h1 h2 => by
    have := guess_test (Vl := val (v.take (v.length - 2))) hUl h1 h2
    rw [← eU, ← eV] at this; exact this
  have G3 : Hid (∀ q r, q < 4294967296 → val (u.drop j) < (q + 1) * val v → q * v1 + r = top → q * v2 ≤ r * 4294967296 + u2 → GuessOk u v j q) := Lib.hid fun q r h0 h1 h2 h3 => by
    have := guess_end (Ul := val ((u.drop j).take (v.length - 2))) hVl hv1p (Nat.le_of_lt h0) (guess_left h2 h3)
    rw [← eU, ← eV] at this
    exact ⟨h0, h1, this⟩
  have G4 : Hid (∀ q r, q ≤ 4294967296 → val (u.drop j) < (q + 1) * val v → q * v1 + r = top → 4294967296 ≤ r → GuessOk u v j q) := Lib.hid fun q r h0 h1 h2 h3 => by
    have := guess_end (Ul := val ((u.drop j).take (v.length - 2))) hVl hv1p h0 (guess_break (u2 := u2) h2 h3 l5 h0)
    rw [← eU, ← eV] at this
    exact ⟨guess_lt h2 h3 htt, h1, this⟩
  have hq0 := Nat.div_add_mod top v1
  rw [Nat.mul_comm] at hq0
  have hr0 := Nat.mod_lt top hv1p
  obtain ⟨Q0, hQ0⟩ : ∃ Q0, top / v1 = Q0 := ⟨_, rfl⟩
  obtain ⟨R0, hR0⟩ : ∃ R0, top % v1 = R0 := ⟨_, rfl⟩
  have hdiv : (top : Int) / (v1 : Int) = (Q0 : Int) := by rw [← Int.natCast_ediv, hQ0]
  have hmod : (top : Int) % (v1 : Int) = (R0 : Int) := by rw [← Int.natCast_emod, hR0]
  have hdivt : (top : Int).tdiv (v1 : Int) = (Q0 : Int) := by rw [Int.tdiv_eq_ediv_of_nonneg (by omega)]; exact hdiv
  have hmodt : (top : Int).tmod (v1 : Int) = (R0 : Int) := by rw [Int.tmod_eq_emod_of_nonneg (by omega)]; exact hmod
  have hnz : ((v1 : Int) == 0) = false := by rw [beq_eq_false_iff_ne]; omega
  rw [hQ0] at hq0 gl G0
  rw [hR0] at hq0 hr0
  have HQ0 := Lib.hid hq0
  have w1 : IntKind.i64.wrap ((j : Int) + (v.length : Int)) = ((j + v.length : Nat) : Int) := by rw [IntWalk.i64_in _ (by omega)]; omega
  have w2 : IntKind.i64.wrap (((j + v.length : Nat) : Int) - 1) = ((j + v.length - 1 : Nat) : Int) := by rw [IntWalk.i64_in _ (by omega)]; omega
  have w3 : IntKind.i64.wrap (((j + v.length : Nat) : Int) - 2) = ((j + v.length - 2 : Nat) : Int) := by rw [IntWalk.i64_in _ (by omega)]; omega
  have ht64 : top < 18446744073709551616 := by omega
  have or0 := or_shift (r := u0) l1 l2
  rw [htp] at or0
  clear hQ0 hR0 eU eV hVl hUl hlt htt g0 hq0 htp hu0 hu1 hu2 hv1 hv2
  go_enter Tryd.func61, Tryd.ntmps61
  go_wp2_with fail
  go_quiet (fail)
  go_wp2_with fail
  go_quiet (fail)
  go_wp2_with fail
  have hR0b : R0 < 4294967296 := by omega
  clear htop ht64 hr0 w1 w2 p1 p2 p4 or0 hdiv hmod hdivt hmodt hnz
  go_loopw [10, 11] (fun qv rv wr => ∃ q r : Nat, q ≤ 4294967297 ∧ r < 4294967296 ∧ qv = .int .u64 q ∧ rv = .int .u64 r ∧ Hid (q * v1 + r = top) ∧ Hid (val (u.drop j) < (q + 1) * val v) ∧ ∃ d, wr = w.drewN d) (fun qv _ _ => (intOf qv).toNat)
  case atStart => exact ⟨Q0, R0, gl, by omega, rfl, rfl, HQ0, G0, ⟨_, by first | rfl | rw [World.drewN_drewN]⟩⟩
  case round =>
    obtain ⟨q, r, hq, hr, rfl, rfl, hE, hU, ⟨d, rfl⟩⟩ := hrel
    by_cases hqb : 4294967296 ≤ q
    · have hq1 : 1 ≤ q := by omega
      obtain ⟨p, hp⟩ : ∃ p, q - 1 = p := ⟨_, rfl⟩
      have hpi : (q : Int) - 1 = (p : Int) := by omega
      have hN : Hid (val (u.drop j) < (p + 1) * val v) := Lib.hid (by have := G1.out q hqb; rw [hp] at this; exact this)
      have hE2 : Hid (p * v1 + (r + v1) = top) := Lib.hid (by have := hE.out; rw [show q = p + 1 by omega, Nat.add_mul, Nat.one_mul] at this; omega)
      have hd : (4294967296 : Int) ≤ (q : Int) := by omega
      have hpq : Hid (p < q ∧ p ≤ 4294967296) := Lib.hid (by omega)
      clear hqb hp
      go_wp2_with fail
      go_quiet (fail)
      by_cases hbr : (4294967296 : Int) ≤ (r : Int) + (v1 : Int)
      · have HF := Lib.hid (G4.out p (r + v1) hpq.out.2 hN.out hE2.out (by omega))
        go_wp2_with fail
        go_ret
        exact ⟨p, rfl, HF.out, ⟨_, by first | rfl | rw [World.drewN_drewN]⟩⟩
      · obtain ⟨s, hs⟩ : ∃ s, r + v1 = s := ⟨_, rfl⟩
        have hrv : (r : Int) + (v1 : Int) = (s : Int) := by omega
        have hrr : Hid (s < 4294967296) := Lib.hid (by omega)
        have hsd : decide ((4294967296 : Int) ≤ (s : Int)) = false := by simpa using (show (s : Int) < 4294967296 by omega)
        rw [hs] at hE2
        clear hs hbr
        go_wp2_with fail
        go_roundw
        case rel => exact ⟨p, s, by have := hpq.out.2; omega, hrr.out, rfl, rfl, hE2, hN, ⟨_, by first | rfl | rw [World.drewN_drewN]⟩⟩
        case measure => have := hpq.out.1; simp [intOf] <;> omega
    · have HQB := Lib.hid hqb
      have hd : decide ((4294967296 : Int) ≤ (q : Int)) = false := by simpa using (show (q : Int) < 4294967296 by omega)
      obtain ⟨QV, hQV⟩ : ∃ QV, q * v2 = QV := ⟨_, rfl⟩
      have hQVi : (q : Int) * (v2 : Int) = (QV : Int) := by rw [← hQV, Int.natCast_mul]
      have hQVb : QV ≤ 4294967295 * 4294967295 := by rw [← hQV]; exact Nat.mul_le_mul (by omega) (by omega)
      have hmulw : IntKind.u64.wrap ((q : Int) * (v2 : Int)) = (QV : Int) := by rw [hQVi, IntWalk.u64_in _ (by omega)]
      have hor := or_shift (r := r) hr l3
      obtain ⟨RU, hRU⟩ : ∃ RU, r * 4294967296 + u2 = RU := ⟨_, rfl⟩
      rw [hRU] at hor
      by_cases ht : RU < QV
      · have htd : decide (RU < QV) = true := by simpa using ht
        have hq1 : 1 ≤ q := by
          rcases Nat.eq_zero_or_pos q with h | h
          · rw [h, Nat.zero_mul] at hQV; omega
          · exact h
        obtain ⟨p, hp⟩ : ∃ p, q - 1 = p := ⟨_, rfl⟩
        have hpi : (q : Int) - 1 = (p : Int) := by omega
        have hN : Hid (val (u.drop j) < (p + 1) * val v) := Lib.hid (by have := G2.out q r hE.out (by rw [hRU, hQV]; exact ht); rw [hp] at this; exact this)
        have hE2 : Hid (p * v1 + (r + v1) = top) := Lib.hid (by have := hE.out; rw [show q = p + 1 by omega, Nat.add_mul, Nat.one_mul] at this; omega)
        have hpq : Hid (p < q ∧ p ≤ 4294967296) := Lib.hid (by omega)
        clear hqb hp hQV hRU
        go_wp2_with fail
        go_quiet (fail)
        by_cases hbr : (4294967296 : Int) ≤ (r : Int) + (v1 : Int)
        · have HF := Lib.hid (G4.out p (r + v1) hpq.out.2 hN.out hE2.out (by omega))
          go_wp2_with fail
          go_ret
          exact ⟨p, rfl, HF.out, ⟨_, by first | rfl | rw [World.drewN_drewN]⟩⟩
        · obtain ⟨s, hs⟩ : ∃ s, r + v1 = s := ⟨_, rfl⟩
          have hrv : (r : Int) + (v1 : Int) = (s : Int) := by omega
          have hrr : Hid (s < 4294967296) := Lib.hid (by omega)
          have hsd : decide ((4294967296 : Int) ≤ (s : Int)) = false := by simpa using (show (s : Int) < 4294967296 by omega)
          rw [hs] at hE2
          clear hs hbr
          go_wp2_with fail
          go_roundw
          case rel => exact ⟨p, s, by have := hpq.out.2; omega, hrr.out, rfl, rfl, hE2, hN, ⟨_, by first | rfl | rw [World.drewN_drewN]⟩⟩
          case measure => have := hpq.out.1; simp [intOf] <;> omega
      · have htd : decide (RU < QV) = false := by simpa using ht
        have HF := Lib.hid (G3.out q r (by omega) hU.out hE.out (by rw [hRU, hQV]; omega))
        clear hqb hQV hRU
        go_wp2_with fail
        go_quiet (fail)
        go_wp2_with fail
        go_ret
        exact ⟨q, rfl, HF.out, ⟨_, by first | rfl | rw [World.drewN_drewN]⟩⟩

end Go.Proofs.YteobjelenfjifaaDoor
