import Derived.Test.YteobjelenfjifaaDoorGQ
import Derived.Test.YteobjelenfjifaaDoorGW2
import Derived.Test.YteobjelenfjifaaDoorGG
namespace Go.Proofs.YteobjelenfjifaaDoor
open Go.RowKit Go.Proofs.Kit Go.Proofs.Nums

set_option maxHeartbeats 2000000 in
theorem walk_NatParse {w : World} (s : ByteArray) (hs : s.size ≤ maxLen) :
    Calls Tryd.prog 9 #[.string s] w fun e w' => e = .returned (.bool true) ∧ Below w.heap.size w w' := by
  unfold maxLen at hs
  have hsz : (s.extract 0 (min (s.size : Int) 40).toNat).size ≤ 40 := by rw [ByteArray.size_extract]; omega
  obtain ⟨t, ht⟩ : ∃ t, s.extract 0 (min (s.size : Int) 40).toNat = t := ⟨_, rfl⟩
  rw [ht] at hsz
  by_cases h : numB t.data.toList = true
  · have hN : Hid (pvF t.data.toList < 4294967296 ^ 5) := Lib.hid (by
      have h1 := num_lt h
      have h2 : 10 ^ t.data.toList.length ≤ 10 ^ 40 := Nat.pow_le_pow_right (by omega) (by rw [← Lib.size_eq]; exact hsz)
      omega)
    obtain ⟨n, hn⟩ : ∃ n, pvF t.data.toList = n := ⟨_, rfl⟩
    have PA : Hid (∀ w, Calls Tryd.prog 32 #[.string (s.extract 0 (min (s.size : Int) 40).toNat)] w fun e w' => ∃ v', e = .returned (.tuple #[v', .bool true]) ∧ NatAt w' v' (limbs n) ∧ Below w.heap.size w w') := Lib.hid (fun w => by
      have := parse_yes (w := w) (by omega) h
      rw [hn] at this; rw [ht]; exact this)
    have RE : Hid (∀ w, Calls Tryd.prog 34 #[.string (s.extract 0 (min (s.size : Int) 40).toNat)] w fun e w' => ∃ v', e = .returned (.tuple #[v', .bool true]) ∧ BitAt w' v' (bitsN n) ∧ Below w.heap.size w w') := Lib.hid (fun w => by
      have := read_yes (w := w) (by omega) h
      rw [hn] at this; rw [ht]; exact this)
    rw [hn] at hN
    clear h ht hn
    go_enter Tryd.func9, Tryd.ntmps9
    go_wp2_with (first
      | (go_at_call 32; ((with_reducible refine (PA.out _).mono ?_); rintro e w1 ⟨v1, rfl, hv1, hb1⟩))
      | (go_at_call 34; ((with_reducible refine (RE.out _).mono ?_); rintro e w2 ⟨v2, rfl, hv2, hb2⟩; have hb2' := bel2' hb1 hb2; have h12 := hv1.keep hb2))
      | (go_at_call 18; ((with_reducible refine (awake_any _).mono ?_); rintro e w3 ⟨rfl, hb3⟩; have hb3' := bel2' hb2' hb3; have h13 : Nrm w3 v1 n 5 := ⟨h12.keep hb3, hN.out⟩; have h23 := hv2.keep hb3))
      | (go_at_call 23; ((with_reducible refine (is_num h13 h23 (by omega)).mono ?_); rintro e w4 ⟨rfl, hb4⟩; have hb4' := bel2' hb3' hb4)))
    go_ret
    exact ⟨rfl, hb4'⟩
  · have PA : Hid (∀ w, Calls Tryd.prog 32 #[.string (s.extract 0 (min (s.size : Int) 40).toNat)] w fun e w' => e = .returned (.tuple #[.slice none 0 0, .bool false]) ∧ Below w.heap.size w w') := Lib.hid (fun w => by
      rw [ht]; exact parse_no (by omega) h)
    have RE : Hid (∀ w, Calls Tryd.prog 34 #[.string (s.extract 0 (min (s.size : Int) 40).toNat)] w fun e w' => e = .returned (.tuple #[.slice none 0 0, .bool false]) ∧ Below w.heap.size w w') := Lib.hid (fun w => by
      rw [ht]; exact read_no (by omega) h)
    clear h ht
    go_enter Tryd.func9, Tryd.ntmps9
    go_wp2_with (first
      | (go_at_call 32; ((with_reducible refine (PA.out _).mono ?_); rintro e w1 ⟨rfl, hb1⟩))
      | (go_at_call 34; ((with_reducible refine (RE.out _).mono ?_); rintro e w2 ⟨rfl, hb2⟩; have hb2' := bel2' hb1 hb2))
      | (go_at_call 18; ((with_reducible refine (awake_any _).mono ?_); rintro e w3 ⟨rfl, hb3⟩; have hb3' := bel2' hb2' hb3)))
    go_ret
    exact ⟨rfl, hb3'⟩

end Go.Proofs.YteobjelenfjifaaDoor
