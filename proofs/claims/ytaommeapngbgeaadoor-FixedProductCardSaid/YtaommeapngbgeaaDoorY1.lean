/- Walks of FixedWord, FixedProduct, FixedQuotient. -/
import Derived.Test.YtaommeapngbgeaaDoorF6
namespace Go.Proofs.YtaommeapngbgeaaDoor
open Go.RowKit Go.Proofs.Kit Go.Proofs.Nums

set_option maxHeartbeats 2000000 in
theorem walk_FixedWord {w : World} (n : Int) (h1 : 0 ≤ n) (h2 : n ≤ 18446744073709551615) (z : Int) (_h3 : -9223372036854775808 ≤ z) (_h4 : z ≤ 9223372036854775807) :
    Calls Tryd.prog 5 #[.int .u64 n, .int .i64 z] w fun e w' => e = .returned (.bool true) ∧ Below w.heap.size w w' := by
  obtain ⟨d, hd, IN0⟩ := in_c z
  obtain ⟨m, rfl⟩ : ∃ m : Nat, n = m := ⟨n.toNat, by omega⟩
  have IN := Lib.hid IN0
  have OF := Lib.hid (fun w => fof_num (n := m) (d := d) (z := (d : Int)) (w := w) rfl hd (by omega))
  have RF := Lib.hid (fun w => rfof_n (n := m) (d := d) (z := (d : Int)) (w := w) (by omega) rfl hd)
  obtain ⟨x, hx⟩ : ∃ x, m * 10 ^ d = x := ⟨_, rfl⟩
  rw [hx] at OF RF
  clear hx IN0 hd h1 h2 _h3 _h4
  go_enter Tryd.func5, Tryd.ntmps5
  go_wp2_with (first
    | (go_at_call 11; ((with_reducible refine (IN.out _).mono ?_); rintro e w1 ⟨rfl, rfl⟩))
    | (go_at_call 13; ((with_reducible refine (awake3 _).mono ?_); rintro e w2 ⟨rfl, hb2⟩))
    | (go_at_call 19; ((with_reducible refine (OF.out _).mono ?_); rintro e w3 ⟨v3, rfl, hv3, hb3⟩; have hB3 := bel2' hb2 hb3))
    | (go_at_call 20; ((with_reducible refine (RF.out _).mono ?_); rintro e w4 ⟨v4, rfl, hv4, hb4⟩; have hB4 := bel2' hB3 hb4; have hv34 := hv3.keep hb4))
    | (go_at_call 14; ((with_reducible refine (is3 hv34 hv4 (by omega)).mono ?_); rintro e w5 ⟨rfl, hb5⟩; have hB5 := bel2' hB4 hb5)))
  go_ret
  exact ⟨rfl, hB5⟩

set_option maxHeartbeats 4000000 in
theorem walk_FixedProduct {w : World} (va : Value) (a : List Nat) (ha : NatAt w va a) (vb : Value) (b : List Nat) (hb : NatAt w vb b) (z : Int) (_h3 : -9223372036854775808 ≤ z) (_h4 : z ≤ 9223372036854775807) :
    Calls Tryd.prog 3 #[va, vb, .int .i64 z] w fun e w' => e = .returned (.bool true) ∧ Below w.heap.size w w' := by
  obtain ⟨d, hd, IN0⟩ := in_c z
  obtain ⟨n, SA0⟩ := short_at ha 3 (by omega) 3 rfl
  obtain ⟨m, SB0⟩ := short_at hb 3 (by omega) 3 rfl
  have IN := Lib.hid IN0
  have SA := Lib.hid SA0
  have SB := Lib.hid SB0
  have FA : Hid (∀ v w, Num w v n 3 → Calls Tryd.prog 12 #[v] w fun e w' => ∃ v', e = .returned v' ∧ BitAt w' v' (bitsN n) ∧ Hid ((bitsN n).length ≤ 96) ∧ Below w.heap.size w w') := Lib.hid (fun v w h => (from_num h (by omega)).mono (by
    rintro e w' ⟨v', rfl, g1, g2⟩
    exact ⟨v', rfl, g1, Lib.hid (Nat.le_trans (num_bits h) (by omega)), g2⟩))
  have FB : Hid (∀ v w, Num w v m 3 → Calls Tryd.prog 12 #[v] w fun e w' => ∃ v', e = .returned v' ∧ BitAt w' v' (bitsN m) ∧ Hid ((bitsN m).length ≤ 96) ∧ Below w.heap.size w w') := Lib.hid (fun v w h => (from_num h (by omega)).mono (by
    rintro e w' ⟨v', rfl, g1, g2⟩
    exact ⟨v', rfl, g1, Lib.hid (Nat.le_trans (num_bits h) (by omega)), g2⟩))
  have MU : Hid (∀ up va vb w, Num w va n 3 → Num w vb m 3 → Calls Tryd.prog 15 #[va, vb, .int .i64 d, .bool up] w fun e w' => ∃ v', e = .returned v' ∧ Nrm w' v' (quo (n * m) (10 ^ d) up) 300 ∧ Below w.heap.size w w') := Lib.hid (fun up va vb w h h' => fmul_num h h' (by omega) (by omega) rfl hd)
  have RM : Hid (∀ up va vb w, BitAt w va (bitsN n) → BitAt w vb (bitsN m) → Hid ((bitsN n).length ≤ 96) → Hid ((bitsN m).length ≤ 96) → Calls Tryd.prog 16 #[va, vb, .int .i64 d, .bool up] w fun e w' => ∃ v', e = .returned v' ∧ BitAt w' v' (bitsN (quo (n * m) (10 ^ d) up)) ∧ Below w.heap.size w w') := Lib.hid (fun up va vb w h h' g g' => rfmul_n h h' (Nat.le_trans g.out (by omega)) (Nat.le_trans g'.out (by omega)) rfl hd)
  clear IN0 SA0 SB0 hd ha hb _h3 _h4
  obtain ⟨Q0, hQ0⟩ : ∃ x, quo (n * m) (10 ^ d) false = x := ⟨_, rfl⟩
  obtain ⟨Q1, hQ1⟩ : ∃ x, quo (n * m) (10 ^ d) true = x := ⟨_, rfl⟩
  have M0 := MU.out false
  have M1 := MU.out true
  have R0 := RM.out false
  have R1 := RM.out true
  rw [hQ0] at M0 R0
  rw [hQ1] at M1 R1
  have MH0 := Lib.hid M0
  have MH1 := Lib.hid M1
  have RH0 := Lib.hid R0
  have RH1 := Lib.hid R1
  clear M0 M1 R0 R1 MU RM hQ0 hQ1
  go_enter Tryd.func3, Tryd.ntmps3
  go_wp2_with (first
    | (go_at_call 10; ((with_reducible refine (SA.out).mono ?_); rintro e w1 ⟨v1, rfl, hv1, rfl⟩))
    | (go_at_call 10; ((with_reducible refine (SB.out).mono ?_); rintro e w1 ⟨v2, rfl, hv2, rfl⟩))
    | (go_at_call 11; ((with_reducible refine (IN.out _).mono ?_); rintro e w1 ⟨rfl, rfl⟩))
    | (go_at_call 12; ((with_reducible refine (FA.out _ _ hv1).mono ?_); rintro e w3 ⟨v3, rfl, hv3, hl3, hb3⟩; have hv13 := hv1.keep hb3; have hv23 := hv2.keep hb3))
    | (go_at_call 12; ((with_reducible refine (FB.out _ _ hv23).mono ?_); rintro e w4 ⟨v4, rfl, hv4, hl4, hb4⟩; have hB4 := bel2' hb3 hb4; have hv14 := hv13.keep hb4; have hv24 := hv23.keep hb4; have hv34 := hv3.keep hb4))
    | (go_at_call 13; ((with_reducible refine (awake3 _).mono ?_); rintro e w5 ⟨rfl, hb5⟩; have hB5 := bel2' hB4 hb5; have hv15 := hv14.keep hb5; have hv25 := hv24.keep hb5; have hv35 := hv34.keep hb5; have hv45 := hv4.keep hb5))
    | (go_at_call 15; ((with_reducible refine (MH0.out _ _ _ hv15 hv25).mono ?_); rintro e w6 ⟨v6, rfl, hv6, hb6⟩; have hB6 := bel2' hB5 hb6; have hv16 := hv15.keep hb6; have hv26 := hv25.keep hb6; have hv36 := hv35.keep hb6; have hv46 := hv45.keep hb6))
    | (go_at_call 16; ((with_reducible refine (RH0.out _ _ _ hv36 hv46 hl3 hl4).mono ?_); rintro e w7 ⟨v7, rfl, hv7, hb7⟩; have hB7 := bel2' hB6 hb7; have hv17 := hv16.keep hb7; have hv27 := hv26.keep hb7; have hv37 := hv36.keep hb7; have hv47 := hv46.keep hb7; have hv67 := hv6.keep hb7))
    | (go_at_call 14; ((with_reducible refine (is3 hv67 hv7 (by omega)).mono ?_); rintro e w8 ⟨rfl, hb8⟩; have hB8 := bel2' hB7 hb8; have hv18 := hv17.keep hb8; have hv28 := hv27.keep hb8; have hv38 := hv37.keep hb8; have hv48 := hv47.keep hb8))
    | (go_at_call 15; ((with_reducible refine (MH1.out _ _ _ hv18 hv28).mono ?_); rintro e w9 ⟨v9, rfl, hv9, hb9⟩; have hB9 := bel2' hB8 hb9; have hv39 := hv38.keep hb9; have hv49 := hv48.keep hb9))
    | (go_at_call 16; ((with_reducible refine (RH1.out _ _ _ hv39 hv49 hl3 hl4).mono ?_); rintro e w10 ⟨v10, rfl, hv10, hb10⟩; have hB10 := bel2' hB9 hb10; have hv910 := hv9.keep hb10))
    | (go_at_call 14; ((with_reducible refine (is3 hv910 hv10 (by omega)).mono ?_); rintro e w11 ⟨rfl, hb11⟩; have hB11 := bel2' hB10 hb11)))
  go_ret
  exact ⟨rfl, hB11⟩

end Go.Proofs.YtaommeapngbgeaaDoor
