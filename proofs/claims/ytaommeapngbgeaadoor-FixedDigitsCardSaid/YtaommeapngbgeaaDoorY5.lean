/- Walk of FixedDigits. -/
import Derived.Test.YtaommeapngbgeaaDoorF7
import Derived.Test.YtaommeapngbgeaaDoorF4
import Derived.Deep.RegionHeld3
namespace Go.Proofs.YtaommeapngbgeaaDoor
open Go.RowKit Go.Proofs.Kit Go.Proofs.Nums

set_option maxHeartbeats 1000000 in
theorem may_c (z : Int) (w : World) :
    Calls Tryd.prog 34 #[.int .i64 z] w fun e w' => e = .returned (.bool (decide (0 ≤ z ∧ z ≤ 6))) ∧ w = w' := by
  by_cases h1 : z < 0
  · have e : decide (0 ≤ z ∧ z ≤ 6) = false := decide_eq_false (by omega)
    have h2 : decide ((0 : Int) ≤ z) = false := decide_eq_false (by omega)
    rw [e]
    go_enter Tryd.func34, Tryd.ntmps34
    go_wp2_with fail
    go_ret
    exact ⟨rfl, rfl⟩
  · by_cases h2 : 6 < z
    · have e : decide (0 ≤ z ∧ z ≤ 6) = false := decide_eq_false (by omega)
      have h3 : decide ((0 : Int) ≤ z) = true := decide_eq_true (by omega)
      have h4 : decide (z ≤ (6 : Int)) = false := decide_eq_false (by omega)
      rw [e]
      go_enter Tryd.func34, Tryd.ntmps34
      go_wp2_with fail
      go_ret
      exact ⟨rfl, rfl⟩
    · have e : decide (0 ≤ z ∧ z ≤ 6) = true := decide_eq_true (by omega)
      have h3 : decide ((0 : Int) ≤ z) = true := decide_eq_true (by omega)
      have h4 : decide (z ≤ (6 : Int)) = true := decide_eq_true (by omega)
      rw [e]
      go_enter Tryd.func34, Tryd.ntmps34
      go_wp2_with fail
      go_ret
      exact ⟨rfl, rfl⟩

theorem Blk.four {b : Nat} {x y z u : Value} {w : World} (h : Blk b #[x, y, z, u] w) : w.cell? ⟨b, 0, none⟩ = some x ∧ w.cell? ⟨b, 1, none⟩ = some y ∧ w.cell? ⟨b, 2, none⟩ = some z ∧ w.cell? ⟨b, 3, none⟩ = some u := ⟨h.2.1 0, h.2.1 1, h.2.1 2, h.2.1 3⟩

set_option maxRecDepth 100000 in
set_option maxHeartbeats 8000000 in
theorem walk_digits {w : World} {p1 : Option Addr} {l1 k1 : Nat} {p2 : Option Addr} {l2 k2 : Nat} (a : List Nat) (ha : NatAt w (.slice p1 l1 k1) a) (b : List Nat) (hb : NatAt w (.slice p2 l2 k2) b) (z : Int) (s : ByteArray) (hs : s.size ≤ maxLen) :
    Calls Tryd.prog 9 #[.agg #[.slice p1 l1 k1, .slice p2 l2 k2, .int .i64 z, .string s]] w fun e w' => e = .returned (.bool true) ∧ Below w.heap.size w w' := by
  unfold maxLen at hs
  have hm1 : (0 : Int) ≤ min (s.size : Int) 30 := by omega
  have hm2 : min (s.size : Int) 30 ≤ (s.size : Int) := by omega
  have B0 := Lib.hid (Blk.new w #[.slice p1 l1 k1, .slice p2 l2 k2, .int .i64 z, .string s] 59)
  have hBd : Below w.heap.size w (w.alloc (.cells #[.slice p1 l1 k1, .slice p2 l2 k2, .int .i64 z, .string s] 59)) := (Below.refl _ _).alloc (Nat.le_refl _) _
  obtain ⟨m0, m1, m2, m3⟩ := B0.out.four
  have SA : Hid (∀ w', Below w.heap.size w w' → Calls Tryd.prog 10 #[.slice p1 l1 k1, .int .i64 3] w' fun e w'' => ∃ v', e = .returned v' ∧ NatAt w' v' (a.take 3) ∧ w' = w'') := Lib.hid (fun w' h => by
    have := short_any _ a 3 w' (ha.keep h) (by omega)
    rw [show ((3 : Nat) : Int) = 3 by omega] at this
    exact this)
  have SB : Hid (∀ w', Below w.heap.size w w' → Calls Tryd.prog 10 #[.slice p2 l2 k2, .int .i64 3] w' fun e w'' => ∃ v', e = .returned v' ∧ NatAt w' v' (b.take 3) ∧ w' = w'') := Lib.hid (fun w' h => by
    have := short_any _ b 3 w' (hb.keep h) (by omega)
    rw [show ((3 : Nat) : Int) = 3 by omega] at this
    exact this)
  have MY := Lib.hid (fun w => may_c z w)
  by_cases hz : 0 ≤ z ∧ z ≤ 6
  · have hd : decide (0 ≤ z ∧ z ≤ 6) = true := decide_eq_true hz
    have MT : Hid (∀ w, Calls Tryd.prog 34 #[.int .i64 z] w fun e w' => e = .returned (.bool true) ∧ w = w') := Lib.hid (fun w => by rw [← hd]; exact MY.out w)
    clear MY SA SB ha hb hs hz hd
    go_enter Tryd.func9, Tryd.ntmps9
    go_wp2_with (first
      | (go_at_call 34; ((with_reducible refine (MT.out _).mono ?_); rintro e w1 ⟨rfl, rfl⟩))
      | (go_at_call 13; ((with_reducible refine (awake3 _).mono ?_); rintro e w2 ⟨rfl, hb2⟩)))
    go_ret
    exact ⟨rfl, bel2' hBd hb2⟩
  · have hd : decide (0 ≤ z ∧ z ≤ 6) = false := decide_eq_false hz
    have hout : z < 0 ∨ 6 < z := by omega
    have MF : Hid (∀ w, Calls Tryd.prog 34 #[.int .i64 z] w fun e w' => e = .returned (.bool false) ∧ w = w') := Lib.hid (fun w => by rw [← hd]; exact MY.out w)
    have DV : Hid (∀ va vb w, Calls Tryd.prog 17 #[va, vb, .int .i64 z, .bool true] w fun e w' => e = .returned (.tuple #[.slice none 0 0, .bool false]) ∧ Below w.heap.size w w') := Lib.hid (fun va vb w => fdiv_out hout)
    have PA : Hid (∀ s w, Calls Tryd.prog 31 #[.string s, .int .i64 z] w fun e w' => e = .returned (.tuple #[.slice none 0 0, .bool false]) ∧ Below w.heap.size w w') := Lib.hid (fun s w => fparse_out hout)
    have OF : Hid (∀ w, Calls Tryd.prog 19 #[.int .u64 3, .int .i64 z] w fun e w' => e = .returned (.slice none 0 0) ∧ Below w.heap.size w w') := Lib.hid (fun w => fof_out hout)
    have MU : Hid (∀ va vb w, Calls Tryd.prog 15 #[va, vb, .int .i64 z, .bool true] w fun e w' => e = .returned (.slice none 0 0) ∧ Below w.heap.size w w') := Lib.hid (fun va vb w => fmul_out hout)
    have TX : Hid (∀ va w, Calls Tryd.prog 30 #[va, .int .i64 z] w fun e w' => e = .returned (.string ⟨#[]⟩) ∧ Below w.heap.size w w') := Lib.hid (fun va w => ftext_out hout)
    have RA : Hid (∀ va w, Calls Tryd.prog 22 #[va, .int .i64 z] w fun e w' => e = .returned (.agg #[.bool false, .slice none 0 0, .slice none 0 0]) ∧ Below w.heap.size w w') := Lib.hid (fun va w => fratio_out hout)
    have EQ : Hid (∀ w, Calls Tryd.prog 21 #[.agg #[.bool false, .slice none 0 0, .slice none 0 0], .agg #[.bool false, .slice none 0 0, .slice none 0 0]] w fun e w' => e = .returned (.bool true) ∧ Below w.heap.size w w') := Lib.hid (fun w => by
      have hz : RatL w (.agg #[.bool false, .slice none 0 0, .slice none 0 0]) false [] [] := ⟨_, _, rfl, NatAt.nil w, NatAt.nil w⟩
      have := req_r hz hz (by simp) (by simp) (by simp) (by simp)
      rw [eqR_self] at this
      exact this)
    clear MY ha hb hs hz hd hout
    go_enter Tryd.func9, Tryd.ntmps9
    go_wp2_with (first
      | (go_at_call 34; ((with_reducible refine (MF.out _).mono ?_); rintro e w1 ⟨rfl, rfl⟩)))
    have hBT := hBd.drew
    go_region_held3 (fun w' => w'.cell? ⟨w.heap.size, 0, none⟩ = some (.slice p1 l1 k1) ∧ w'.cell? ⟨w.heap.size, 1, none⟩ = some (.slice p2 l2 k2) ∧ w'.cell? ⟨w.heap.size, 2, none⟩ = some (.int .i64 z) ∧ w'.cell? ⟨w.heap.size, 3, none⟩ = some (.string s))
      (first | exact B0.out.drew.four | exact B0.out.four)
      (first
        | (go_at_call 10; ((with_reducible refine (SA.out _ hBT).mono ?_); rintro e w2 ⟨v2, rfl, hv2, rfl⟩))
        | (go_at_call 10; ((with_reducible refine (SB.out _ hBT).mono ?_); rintro e w2 ⟨v3, rfl, hv3, rfl⟩)))
    all_goals
      go_wp2_with (first
        | (go_at_call 17; ((with_reducible refine (DV.out _ _ _).mono ?_); rintro e w4 ⟨rfl, hb4⟩; have hB4 := bel2' hBT hb4))
        | (go_at_call 31; ((with_reducible refine (PA.out _ _).mono ?_); rintro e w5 ⟨rfl, hb5⟩; have hB5 := bel2' hB4 hb5))
        | (go_at_call 13; ((with_reducible refine (awake3 _).mono ?_); rintro e w6 ⟨rfl, hb6⟩; have hB6 := bel2' hB5 hb6))
        | (go_at_call 19; ((with_reducible refine (OF.out _).mono ?_); rintro e w7 ⟨rfl, hb7⟩; have hB7 := bel2' hB6 hb7))
        | (go_at_call 15; ((with_reducible refine (MU.out _ _ _).mono ?_); rintro e w8 ⟨rfl, hb8⟩; have hB8 := bel2' hB7 hb8))
        | (go_at_call 30; ((with_reducible refine (TX.out _ _).mono ?_); rintro e w9 ⟨rfl, hb9⟩; have hB9 := bel2' hB8 hb9))
        | (go_at_call 22; ((with_reducible refine (RA.out _ _).mono ?_); rintro e w10 ⟨rfl, hb10⟩; have hB10 := bel2' hB9 hb10))
        | (go_at_call 21; ((with_reducible refine (EQ.out _).mono ?_); rintro e w11 ⟨rfl, hb11⟩; have hB11 := bel2' hB10 hb11)))
      go_ret
      exact ⟨rfl, hB11⟩

end Go.Proofs.YtaommeapngbgeaaDoor
