/- Walks of FixedQuotient and FixedText. -/
import Derived.Test.YtaommeapngbgeaaDoorF6
import Derived.Test.YtaommeapngbgeaaDoorF4
namespace Go.Proofs.YtaommeapngbgeaaDoor
open Go.RowKit Go.Proofs.Kit Go.Proofs.Nums

theorem fixT_len {n d L : Nat} (h : n < 10 ^ L) (hL : 1 ≤ L) (hd : d ≤ 6) : (fixT n d).length ≤ L + 7 := by
  unfold fixT
  by_cases h0 : d = 0
  · rw [if_pos h0]
    have := decB_le_dig h hL
    omega
  · rw [if_neg h0, List.length_append, List.length_cons, frac_len (Nat.mod_lt _ (Nat.pow_pos (by omega))) (by omega)]
    have := decB_le_dig (Nat.lt_of_le_of_lt (Nat.div_le_self n (10 ^ d)) h) hL
    omega

set_option maxHeartbeats 4000000 in
theorem walk_FixedQuotient {w : World} (va : Value) (a : List Nat) (ha : NatAt w va a) (vb : Value) (b : List Nat) (hb : NatAt w vb b) (z : Int) (_h3 : -9223372036854775808 ≤ z) (_h4 : z ≤ 9223372036854775807) :
    Calls Tryd.prog 4 #[va, vb, .int .i64 z] w fun e w' => e = .returned (.bool true) ∧ Below w.heap.size w w' := by
  obtain ⟨d, hd, IN0⟩ := in_c z
  obtain ⟨n, SA0⟩ := short_at ha 3 (by omega) 3 rfl
  obtain ⟨m, SB0⟩ := short_at hb 3 (by omega) 3 rfl
  have IN := Lib.hid IN0
  have SA := Lib.hid SA0
  have SB := Lib.hid SB0
  have FA : Hid (∀ v w, Num w v n 3 → Calls Tryd.prog 12 #[v] w fun e w' => ∃ v', e = .returned v' ∧ BitAt w' v' (bitsN n) ∧ Hid ((bitsN n).length ≤ 96) ∧ Below w.heap.size w w') := Lib.hid (fun v w h => (from_num h (by omega)).mono (by
    rintro e w' ⟨v', rfl, g1, g2⟩
    exact ⟨v', rfl, g1, Lib.hid (Nat.le_trans (num_bits h) (by omega)), g2⟩))
  have FB : Hid (∀ v w, Num w v m 3 → Calls Tryd.prog 12 #[v] w fun e w' => ∃ p l k, e = .returned (.slice p l k) ∧ l = (bitsN m).length ∧ BitAt w' (.slice p l k) (bitsN m) ∧ Hid ((bitsN m).length ≤ 96) ∧ Below w.heap.size w w') := Lib.hid (fun v w h => (from_num h (by omega)).mono (by
    rintro e w' ⟨v', rfl, g1, g2⟩
    obtain ⟨p, k, e2⟩ := g1.shape
    subst e2
    exact ⟨_, _, _, rfl, rfl, g1, Lib.hid (Nat.le_trans (num_bits h) (by omega)), g2⟩))
  rcases Nat.eq_zero_or_pos m with h0 | h0
  · subst h0
    have DV : Hid (∀ up va vb w, Num w vb 0 3 → Calls Tryd.prog 17 #[va, vb, .int .i64 d, .bool up] w fun e w' => e = .returned (.tuple #[.slice none 0 0, .bool false]) ∧ Below w.heap.size w w') := Lib.hid (fun up va vb w h => fdiv_zero h (by omega) rfl hd)
    have hz : (bitsN 0).length = 0 := rfl
    have HZ := Lib.hid hz
    clear IN0 SA0 SB0 hd ha hb _h3 _h4 hz
    go_enter Tryd.func4, Tryd.ntmps4
    go_wp2_with (first
      | (go_at_call 10; ((with_reducible refine (SA.out).mono ?_); rintro e w1 ⟨v1, rfl, hv1, rfl⟩))
      | (go_at_call 10; ((with_reducible refine (SB.out).mono ?_); rintro e w1 ⟨v2, rfl, hv2, rfl⟩))
      | (go_at_call 11; ((with_reducible refine (IN.out _).mono ?_); rintro e w1 ⟨rfl, rfl⟩))
      | (go_at_call 12; ((with_reducible refine (FA.out _ _ hv1).mono ?_); rintro e w3 ⟨v3, rfl, hv3, hl3, hb3⟩; have hv13 := hv1.keep hb3; have hv23 := hv2.keep hb3))
      | (go_at_call 12; ((with_reducible refine (FB.out _ _ hv23).mono ?_); rintro e w4 ⟨p4, l4, k4, rfl, hl, hv4, hl4, hb4⟩; rw [HZ.out] at hl; subst hl; have hB4 := bel2' hb3 hb4; have hv24 := hv23.keep hb4))
      | (go_at_call 17; ((with_reducible refine (DV.out _ _ _ _ hv24).mono ?_); rintro e w5 ⟨rfl, hb5⟩; have hB5 := bel2' hB4 hb5; have hv25 := hv24.keep hb5))
      | (go_at_call 17; ((with_reducible refine (DV.out _ _ _ _ hv25).mono ?_); rintro e w6 ⟨rfl, hb6⟩; have hB6 := bel2' hB5 hb6))
      | (go_at_call 13; ((with_reducible refine (awake3 _).mono ?_); rintro e w7 ⟨rfl, hb7⟩; have hB7 := bel2' hB6 hb7)))
    go_ret
    exact ⟨rfl, hB7⟩
  · have DV : Hid (∀ up va vb w, Num w va n 3 → Num w vb m 3 → Calls Tryd.prog 17 #[va, vb, .int .i64 d, .bool up] w fun e w' => ∃ v', e = .returned (.tuple #[v', .bool true]) ∧ Nrm w' v' (quo (n * 10 ^ d) m up) 300 ∧ Below w.heap.size w w') := Lib.hid (fun up va vb w h h' => fdiv_num h h' (by omega) (by omega) rfl hd h0)
    have RM : Hid (∀ up va vb w, BitAt w va (bitsN n) → BitAt w vb (bitsN m) → Hid ((bitsN n).length ≤ 96) → Hid ((bitsN m).length ≤ 96) → Calls Tryd.prog 18 #[va, vb, .int .i64 d, .bool up] w fun e w' => ∃ v', e = .returned v' ∧ BitAt w' v' (bitsN (quo (n * 10 ^ d) m up)) ∧ Below w.heap.size w w') := Lib.hid (fun up va vb w h h' g g' => rfdiv_n h h' (Nat.le_trans g.out (by omega)) (Nat.le_trans g'.out (by omega)) rfl hd h0)
    have hz : (((bitsN m).length : Int) == 0) = false := beq_eq_false_iff_ne.2 (by have := List.length_pos_iff.2 (fun e => (Nat.pos_iff_ne_zero.1 h0) (bits_eq_nil.1 e)); omega)
    obtain ⟨ml, hml⟩ : ∃ k, (bitsN m).length = k := ⟨_, rfl⟩
    have HML := Lib.hid hml
    rw [hml] at hz
    clear IN0 SA0 SB0 hd ha hb _h3 _h4 h0 hml
    obtain ⟨Q0, hQ0⟩ : ∃ x, quo (n * 10 ^ d) m false = x := ⟨_, rfl⟩
    obtain ⟨Q1, hQ1⟩ : ∃ x, quo (n * 10 ^ d) m true = x := ⟨_, rfl⟩
    have M0 := DV.out false
    have M1 := DV.out true
    have R0 := RM.out false
    have R1 := RM.out true
    rw [hQ0] at M0 R0
    rw [hQ1] at M1 R1
    have MH0 := Lib.hid M0
    have MH1 := Lib.hid M1
    have RH0 := Lib.hid R0
    have RH1 := Lib.hid R1
    clear M0 M1 R0 R1 DV RM hQ0 hQ1
    go_enter Tryd.func4, Tryd.ntmps4
    go_wp2_with (first
      | (go_at_call 10; ((with_reducible refine (SA.out).mono ?_); rintro e w1 ⟨v1, rfl, hv1, rfl⟩))
      | (go_at_call 10; ((with_reducible refine (SB.out).mono ?_); rintro e w1 ⟨v2, rfl, hv2, rfl⟩))
      | (go_at_call 11; ((with_reducible refine (IN.out _).mono ?_); rintro e w1 ⟨rfl, rfl⟩))
      | (go_at_call 12; ((with_reducible refine (FA.out _ _ hv1).mono ?_); rintro e w3 ⟨v3, rfl, hv3, hl3, hb3⟩; have hv13 := hv1.keep hb3; have hv23 := hv2.keep hb3))
      | (go_at_call 12; ((with_reducible refine (FB.out _ _ hv23).mono ?_); rintro e w4 ⟨p4, l4, k4, rfl, hl, hv4, hl4, hb4⟩; rw [HML.out] at hl; subst hl; have hB4 := bel2' hb3 hb4; have hv14 := hv13.keep hb4; have hv24 := hv23.keep hb4; have hv34 := hv3.keep hb4))
      | (go_at_call 17; ((with_reducible refine (MH0.out _ _ _ hv14 hv24).mono ?_); rintro e w5 ⟨v5, rfl, hv5, hb5⟩; have hB5 := bel2' hB4 hb5; have hv15 := hv14.keep hb5; have hv25 := hv24.keep hb5; have hv35 := hv34.keep hb5; have hv45 := hv4.keep hb5))
      | (go_at_call 17; ((with_reducible refine (MH1.out _ _ _ hv15 hv25).mono ?_); rintro e w6 ⟨v6, rfl, hv6, hb6⟩; have hB6 := bel2' hB5 hb6; have hv36 := hv35.keep hb6; have hv46 := hv45.keep hb6; have hv56 := hv5.keep hb6))
      | (go_at_call 13; ((with_reducible refine (awake3 _).mono ?_); rintro e w7 ⟨rfl, hb7⟩; have hB7 := bel2' hB6 hb7; have hv37 := hv36.keep hb7; have hv47 := hv46.keep hb7; have hv57 := hv56.keep hb7; have hv67 := hv6.keep hb7))
      | (go_at_call 18; ((with_reducible refine (RH0.out _ _ _ hv37 hv47 hl3 hl4).mono ?_); rintro e w8 ⟨v8, rfl, hv8, hb8⟩; have hB8 := bel2' hB7 hb8; have hv38 := hv37.keep hb8; have hv48 := hv47.keep hb8; have hv58 := hv57.keep hb8; have hv68 := hv67.keep hb8))
      | (go_at_call 14; ((with_reducible refine (is3 hv58 hv8 (by omega)).mono ?_); rintro e w9 ⟨rfl, hb9⟩; have hB9 := bel2' hB8 hb9; have hv39 := hv38.keep hb9; have hv49 := hv48.keep hb9; have hv69 := hv68.keep hb9))
      | (go_at_call 18; ((with_reducible refine (RH1.out _ _ _ hv39 hv49 hl3 hl4).mono ?_); rintro e w10 ⟨v10, rfl, hv10, hb10⟩; have hB10 := bel2' hB9 hb10; have hv610 := hv69.keep hb10))
      | (go_at_call 14; ((with_reducible refine (is3 hv610 hv10 (by omega)).mono ?_); rintro e w11 ⟨rfl, hb11⟩; have hB11 := bel2' hB10 hb11)))
    go_ret
    exact ⟨rfl, hB11⟩

set_option maxHeartbeats 4000000 in
theorem walk_FixedText {w : World} (va : Value) (a : List Nat) (ha : NatAt w va a) (z : Int) (_h3 : -9223372036854775808 ≤ z) (_h4 : z ≤ 9223372036854775807) :
    Calls Tryd.prog 7 #[va, .int .i64 z] w fun e w' => e = .returned (.bool true) ∧ Below w.heap.size w w' := by
  obtain ⟨d, hd, IN0⟩ := in_c z
  obtain ⟨n, SA0⟩ := short_at ha 3 (by omega) 3 rfl
  have IN := Lib.hid IN0
  have SA : Hid (Calls Tryd.prog 10 #[va, .int .i64 3] w fun e w' => ∃ v', e = .returned v' ∧ Num w v' n 3 ∧ Hid ((fixT n d).length ≤ 36) ∧ w = w') := Lib.hid (SA0.mono (by
    rintro e w' ⟨v', rfl, g1, g2⟩
    refine ⟨v', rfl, g1, Lib.hid ?_, g2⟩
    have hn : n < 10 ^ 29 := Nat.lt_trans g1.lt (by decide)
    exact Nat.le_trans (fixT_len hn (by omega) hd) (by omega)))
  have FA : Hid (∀ v w, Num w v n 3 → Calls Tryd.prog 12 #[v] w fun e w' => ∃ v', e = .returned v' ∧ BitAt w' v' (bitsN n) ∧ Hid ((bitsN n).length ≤ 96) ∧ Below w.heap.size w w') := Lib.hid (fun v w h => (from_num h (by omega)).mono (by
    rintro e w' ⟨v', rfl, g1, g2⟩
    exact ⟨v', rfl, g1, Lib.hid (Nat.le_trans (num_bits h) (by omega)), g2⟩))
  obtain ⟨t, ht⟩ : ∃ t : ByteArray, (⟨(fixT n d).toArray⟩ : ByteArray) = t := ⟨_, rfl⟩
  have TX : Hid (∀ v w, Num w v n 3 → Calls Tryd.prog 30 #[v, .int .i64 d] w fun e w' => e = .returned (.string t) ∧ Below w.heap.size w w') := Lib.hid (fun v w h => by rw [← ht]; exact ftext_num h (by omega) rfl hd)
  have RX : Hid (∀ v w, BitAt w v (bitsN n) → Hid ((bitsN n).length ≤ 96) → Calls Tryd.prog 32 #[v, .int .i64 d] w fun e w' => e = .returned (.string t) ∧ Below w.heap.size w w') := Lib.hid (fun v w h g => by rw [← ht]; exact rftext_n h (Nat.le_trans g.out (by omega)) rfl hd)
  have PA : Hid (∀ w, Hid ((fixT n d).length ≤ 36) → Calls Tryd.prog 31 #[.string t, .int .i64 d] w fun e w' => ∃ v, e = .returned (.tuple #[v, .bool true]) ∧ Nrm w' v n 78 ∧ Below w.heap.size w w') := Lib.hid (fun w g => by
    rw [← ht]
    refine (fparse_num ⟨(fixT n d).toArray⟩ d d w (by rw [Lib.size_eq]; exact Nat.le_trans g.out (by omega)) rfl hd).mono ?_
    rintro e w' ⟨g1, g2⟩
    have e1 : okF (⟨(fixT n d).toArray⟩ : ByteArray).data.toList d = true := ok_fix n d
    have e2 : valF (⟨(fixT n d).toArray⟩ : ByteArray).data.toList d = n := val_fix n d
    rw [e1, e2, if_pos rfl] at g1
    obtain ⟨v, rfl, g3⟩ := g1
    exact ⟨v, rfl, g3, g2⟩)
  clear IN0 SA0 ht ha hd _h3 _h4
  go_enter Tryd.func7, Tryd.ntmps7
  go_wp2_with (first
    | (go_at_call 10; ((with_reducible refine (SA.out).mono ?_); rintro e w1 ⟨v1, rfl, hv1, hl1, rfl⟩))
    | (go_at_call 11; ((with_reducible refine (IN.out _).mono ?_); rintro e w1 ⟨rfl, rfl⟩))
    | (go_at_call 30; ((with_reducible refine (TX.out _ _ hv1).mono ?_); rintro e w2 ⟨rfl, hb2⟩; have hv12 := hv1.keep hb2))
    | (go_at_call 31; ((with_reducible refine (PA.out _ hl1).mono ?_); rintro e w3 ⟨v3, rfl, hv3, hb3⟩; have hB3 := bel2' hb2 hb3; have hv13 := hv12.keep hb3))
    | (go_at_call 13; ((with_reducible refine (awake3 _).mono ?_); rintro e w4 ⟨rfl, hb4⟩; have hB4 := bel2' hB3 hb4; have hv14 := hv13.keep hb4; have hv34 := hv3.keep hb4))
    | (go_at_call 12; ((with_reducible refine (FA.out _ _ hv14).mono ?_); rintro e w5 ⟨v5, rfl, hv5, hl5, hb5⟩; have hB5 := bel2' hB4 hb5; have hv15 := hv14.keep hb5; have hv35 := hv34.keep hb5))
    | (go_at_call 32; ((with_reducible refine (RX.out _ _ hv5 hl5).mono ?_); rintro e w6 ⟨rfl, hb6⟩; have hB6 := bel2' hB5 hb6; have hv16 := hv15.keep hb6; have hv36 := hv35.keep hb6))
    | (go_at_call 12; ((with_reducible refine (FA.out _ _ hv16).mono ?_); rintro e w7 ⟨v7, rfl, hv7, hl7, hb7⟩; have hB7 := bel2' hB6 hb7; have hv37 := hv36.keep hb7))
    | (go_at_call 14; ((with_reducible refine (is3 hv37 hv7 (by omega)).mono ?_); rintro e w8 ⟨rfl, hb8⟩; have hB8 := bel2' hB7 hb8)))
  go_ret
  exact ⟨rfl, hB8⟩

end Go.Proofs.YtaommeapngbgeaaDoor
