import Derived.Test.YteobjelenfjifaaDoorGQ
import Derived.Test.YteobjelenfjifaaDoorGW
namespace Go.Proofs.YteobjelenfjifaaDoor
open Go.RowKit Go.Proofs.Kit Go.Proofs.Nums

set_option maxHeartbeats 4000000 in
theorem walk_NatDecimal {w : World} (va : Value) (a : List Nat) (ha : NatAt w va a) :
    Calls Tryd.prog 8 #[va] w fun e w' => e = .returned (.bool true) ∧ Below w.heap.size w w' := by
  obtain ⟨n, sa⟩ := short_at ha 4 (by omega) 4 rfl
  have SA := Lib.hid sa
  clear sa ha
  obtain ⟨t, ht⟩ : ∃ t : ByteArray, (⟨(decB n).toArray⟩ : ByteArray) = t := ⟨_, rfl⟩
  have TX : Hid (∀ v w, Num w v n 4 → Calls Tryd.prog 30 #[v] w fun e w' => e = .returned (.string t) ∧ Below w.heap.size w w') := Lib.hid (fun v w h => by have := text_num h (by omega); rw [ht] at this; exact this)
  have PA : Hid (∀ w, n < 4294967296 ^ 4 → Calls Tryd.prog 32 #[.string t] w fun e w' => ∃ v', e = .returned (.tuple #[v', .bool true]) ∧ Nrm w' v' n 4 ∧ Below w.heap.size w w') := Lib.hid (fun w h => by have := parse_dec (w := w) (by omega) (by omega) h; rw [ht] at this; exact this)
  have DG : Hid (∀ v w, BitAt w v (bitsN n) → Hid ((bitsN n).length ≤ 40000) → Calls Tryd.prog 33 #[v] w fun e w' => e = .returned (.string t) ∧ Below w.heap.size w w') := Lib.hid (fun v w h h' => by have := digits_n v n w h h'.out; rw [ht] at this; exact this)
  clear ht
  go_enter Tryd.func8, Tryd.ntmps8
  go_wp2_with (first
    | (go_at_call 14; ((with_reducible refine SA.out.mono ?_); rintro e w1 ⟨v1, rfl, hv1, rfl⟩; have HN : Hid (n < 4294967296 ^ 4 ∧ (bitsN n).length ≤ 40000) := Lib.hid ⟨hv1.lt, Nat.le_trans (num_bits hv1) (by omega)⟩))
    | (go_at_call 30; ((with_reducible refine (TX.out _ _ hv1).mono ?_); rintro e w2 ⟨rfl, hb2⟩; have h12 := hv1.keep hb2))
    | (go_at_call 32; ((with_reducible refine (PA.out _ HN.out.1).mono ?_); rintro e w3 ⟨v3, rfl, hv3, hb3⟩; have hb3' := bel2' hb2 hb3; have h13 := h12.keep hb3))
    | (go_at_call 18; ((with_reducible refine (awake_any _).mono ?_); rintro e w4 ⟨rfl, hb4⟩; have hb4' := bel2' hb3' hb4; have h14 := h13.keep hb4; have h34 := hv3.keep hb4; clear h12 h13))
    | (go_at_call 17; ((with_reducible refine (from_num h14 (by omega)).mono ?_); rintro e w5 ⟨v5, rfl, hv5, hb5⟩; have hb5' := bel2' hb4' hb5; have h15 := h14.keep hb5; have h35 := h34.keep hb5; clear h14))
    | (go_at_call 33; ((with_reducible refine (DG.out _ _ hv5 (Lib.hid HN.out.2)).mono ?_); rintro e w6 ⟨rfl, hb6⟩; have hb6' := bel2' hb5' hb6; have h16 := h15.keep hb6; have h36 := h35.keep hb6; clear h15 hv5))
    | (go_at_call 17; ((with_reducible refine (from_num h16 (by omega)).mono ?_); rintro e w7 ⟨v7, rfl, hv7, hb7⟩; have hb7' := bel2' hb6' hb7; have h37 := h36.keep hb7))
    | (go_at_call 23; ((with_reducible refine (is_num h37 hv7 (by omega)).mono ?_); rintro e w8 ⟨rfl, hb8⟩; have hb8' := bel2' hb7' hb8)))
  go_ret
  exact ⟨rfl, hb8'⟩

end Go.Proofs.YteobjelenfjifaaDoor
