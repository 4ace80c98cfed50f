/- Walk of FixedParse. -/
import Derived.Test.YtaommeapngbgeaaDoorF6
import Derived.Test.YtaommeapngbgeaaDoorF5
import Derived.Deep.RegionHeld3
namespace Go.Proofs.YtaommeapngbgeaaDoor
open Go.RowKit Go.Proofs.Kit Go.Proofs.Nums

set_option maxRecDepth 100000 in
set_option maxHeartbeats 4000000 in
theorem walk_FixedParse {w : World} (s : ByteArray) (hs : s.size ≤ maxLen) (z : Int) (_h3 : -9223372036854775808 ≤ z) (_h4 : z ≤ 9223372036854775807) :
    Calls Tryd.prog 8 #[.string s, .int .i64 z] w fun e w' => e = .returned (.bool true) ∧ Below w.heap.size w w' := by
  unfold maxLen at hs
  have hm1 : (0 : Int) ≤ min (s.size : Int) 30 := by omega
  have hm2 : min (s.size : Int) 30 ≤ (s.size : Int) := by omega
  obtain ⟨d, hd, IN0⟩ := in_c z
  have IN := Lib.hid IN0
  have hsz : (s.extract 0 (min (s.size : Int) 30).toNat).size ≤ 30 := by rw [ByteArray.size_extract]; omega
  obtain ⟨t, ht⟩ : ∃ t, s.extract 0 (min (s.size : Int) 30).toNat = t := ⟨_, rfl⟩
  rw [ht] at hsz
  have PA0 := fun w => fparse_num t d (d : Int) w (by omega) rfl hd
  have RE0 := fun w => rfread_n t d (d : Int) w (by omega) rfl hd
  have hv : okF t.data.toList d = true → pvF (flatF t.data.toList) = valF t.data.toList d := fun h => val_same h
  rw [← ok_same] at hv PA0
  obtain ⟨n, hn⟩ : ∃ n, valF t.data.toList d = n := ⟨_, rfl⟩
  rw [hn] at hv PA0
  by_cases h : okR t.data.toList d = true
  · rw [h] at PA0 RE0
    rw [hv h] at RE0
    have PA : Hid (∀ w, Calls Tryd.prog 31 #[.string t, .int .i64 d] w fun e w' => ∃ p l k, e = .returned (.tuple #[.slice p l k, .bool true]) ∧ Nrm w' (.slice p l k) n 78 ∧ Below w.heap.size w w') := Lib.hid (fun w => (PA0 w).mono (by
      rintro e w' ⟨g1, g2⟩
      rw [if_pos rfl] at g1
      obtain ⟨v, rfl, hv⟩ := g1
      obtain ⟨p, l, k, e2⟩ := hv.shape
      subst e2
      exact ⟨_, _, _, rfl, hv, g2⟩))
    have RE : Hid (∀ w, Calls Tryd.prog 33 #[.string t, .int .i64 d] w fun e w' => ∃ v, e = .returned (.tuple #[v, .bool true]) ∧ BitAt w' v (bitsN n) ∧ Below w.heap.size w w') := Lib.hid (fun w => (RE0 w).mono (by
      rintro e w' ⟨⟨v, rfl, g1⟩, g2⟩
      exact ⟨_, rfl, g1 rfl, g2⟩))
    have HT := Lib.hid ht
    rw [← ht] at PA RE
    clear IN0 PA0 RE0 h hn hv hd ht hsz _h3 _h4
    go_enter Tryd.func8, Tryd.ntmps8
    go_wp2_with fail
    go_region_held3 (fun _ => True)
      (first | exact trivial)
      (first | (go_at_call 11; ((with_reducible refine (IN.out _).mono ?_); rintro e w1 ⟨rfl, rfl⟩)))
    all_goals go_wp2_with (first
      | (go_at_call 31; ((with_reducible refine (PA.out _).mono ?_); rintro e w2 ⟨p2, l2, k2, rfl, hv2, hb2⟩))
      | (go_at_call 33; ((with_reducible refine (RE.out _).mono ?_); rintro e w3 ⟨v3, rfl, hv3, hb3⟩; have hB3 := bel2' hb2 hb3; have hv23 := hv2.keep hb3))
      | (go_at_call 13; ((with_reducible refine (awake3 _).mono ?_); rintro e w4 ⟨rfl, hb4⟩; have hB4 := bel2' hB3 hb4; have hv24 := hv23.keep hb4; have hv34 := hv3.keep hb4))
      | (go_at_call 14; ((with_reducible refine (is3 hv24 hv34 (by omega)).mono ?_); rintro e w5 ⟨rfl, hb5⟩; have hB5 := bel2' hB4 hb5)))
    all_goals go_ret
    all_goals exact ⟨rfl, (Below.refl _ _).drew.trans hB5⟩
  · rw [Bool.not_eq_true] at h
    rw [h] at PA0 RE0
    have PA : Hid (∀ w, Calls Tryd.prog 31 #[.string t, .int .i64 d] w fun e w' => e = .returned (.tuple #[.slice none 0 0, .bool false]) ∧ Below w.heap.size w w') := Lib.hid (fun w => (PA0 w).mono (by
      rintro e w' ⟨g1, g2⟩
      rw [if_neg (by simp)] at g1
      exact ⟨g1, g2⟩))
    have RE : Hid (∀ w, Calls Tryd.prog 33 #[.string t, .int .i64 d] w fun e w' => ∃ v, e = .returned (.tuple #[v, .bool false]) ∧ Below w.heap.size w w') := Lib.hid (fun w => (RE0 w).mono (by
      rintro e w' ⟨⟨v, rfl, g1⟩, g2⟩
      exact ⟨_, rfl, g2⟩))
    rw [← ht] at PA RE
    clear IN0 PA0 RE0 h hn hv hd ht hsz _h3 _h4
    go_enter Tryd.func8, Tryd.ntmps8
    go_wp2_with fail
    go_region_held3 (fun _ => True)
      (first | exact trivial)
      (first | (go_at_call 11; ((with_reducible refine (IN.out _).mono ?_); rintro e w1 ⟨rfl, rfl⟩)))
    all_goals go_wp2_with (first
      | (go_at_call 31; ((with_reducible refine (PA.out _).mono ?_); rintro e w2 ⟨rfl, hb2⟩))
      | (go_at_call 33; ((with_reducible refine (RE.out _).mono ?_); rintro e w3 ⟨v3, rfl, hb3⟩; have hB3 := bel2' hb2 hb3))
      | (go_at_call 13; ((with_reducible refine (awake3 _).mono ?_); rintro e w4 ⟨rfl, hb4⟩; have hB4 := bel2' hB3 hb4)))
    all_goals go_ret
    all_goals exact ⟨rfl, (Below.refl _ _).drew.trans hB4⟩

end Go.Proofs.YtaommeapngbgeaaDoor
