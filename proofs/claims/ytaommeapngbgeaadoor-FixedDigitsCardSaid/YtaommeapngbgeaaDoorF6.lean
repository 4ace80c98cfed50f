/- The law's own helpers: in, is, Awake. -/
import Derived.Test.YtaommeapngbgeaaDoorF3
import Derived.Test.YtaommeapngbgeaaDoorR10
import Derived.Test.YtaommeapngbgeaaDoorGS
namespace Go.Proofs.YtaommeapngbgeaaDoor
open Go.RowKit Go.Proofs.Kit Go.Proofs.Nums

set_option maxHeartbeats 1000000 in
theorem in_c (z : Int) : ∃ d : Nat, d ≤ 6 ∧ ∀ w, Calls Tryd.prog 11 #[.int .i64 z] w fun e w' => e = .returned (.int .i64 (d : Int)) ∧ w = w' := by
  have h0 : (z.tmod 7).natAbs = z.natAbs % 7 := Int.natAbs_tmod z 7
  have h1 : -7 < z.tmod 7 := by omega
  have h2 : z.tmod 7 < 7 := by omega
  obtain ⟨r, hr⟩ : ∃ r, z.tmod 7 = r := ⟨_, rfl⟩
  rw [hr] at h1 h2
  clear h0
  have h5 : (r + 7).tmod 7 = (r + 7) % 7 := Int.tmod_eq_emod_of_nonneg (by omega)
  have h3 : 0 ≤ (r + 7).tmod 7 := by omega
  have h4 : (r + 7).tmod 7 < 7 := by omega
  clear h5
  refine ⟨((r + 7).tmod 7).toNat, by omega, fun w => ?_⟩
  obtain ⟨q, hq⟩ : ∃ q, (r + 7).tmod 7 = q := ⟨_, rfl⟩
  rw [hq] at h3 h4 ⊢
  rw [Int.toNat_of_nonneg h3]
  go_enter Tryd.func11, Tryd.ntmps11
  go_wp2_with fail
  go_ret
  exact ⟨rfl, rfl⟩

set_option maxHeartbeats 1000000 in
theorem is3 {va vb : Value} {n L : Nat} {w : World} (ha : Nrm w va n L) (hb : BitAt w vb (bitsN n)) (hL : L ≤ 1000) :
    Calls Tryd.prog 14 #[va, vb] w fun e w' => e = .returned (.bool true) ∧ Below w.heap.size w w' := by
  have TO := Lib.hid (to_n (L := L) hb hL ha.2)
  have EQ := Lib.hid (fun v w' (h : Below w.heap.size w w') (h' : Nrm w' v n L) => eq_num (ha.keep h) h' (by omega) (by omega) rfl)
  clear ha hb hL
  go_enter Tryd.func14, Tryd.ntmps14
  go_wp2_with (first
    | (go_at_call 37; ((with_reducible refine (TO.out).mono ?_); rintro e w1 ⟨v1, rfl, hv1, hb1⟩))
    | (go_at_call 36; ((with_reducible refine (EQ.out _ _ hb1 hv1).mono ?_); rintro e w2 ⟨rfl, hb2⟩)))
  go_ret
  exact ⟨rfl, bel2' hb1 hb2⟩

set_option maxRecDepth 100000 in
set_option maxHeartbeats 2000000 in
theorem awake3 (w : World) : Calls Tryd.prog 13 #[] w fun e w' => e = .returned (.bool true) ∧ Below w.heap.size w w' := by
  have O1 : Hid (∀ w, Calls Tryd.prog 19 #[.int .u64 1, .int .i64 2] w fun e w' => ∃ v', e = .returned v' ∧ Nrm w' v' 100 63 ∧ Below w.heap.size w w') := Lib.hid (fun w => fof_num (n := 1) (d := 2) rfl (by omega) (by omega))
  have O3 : Hid (∀ w, Calls Tryd.prog 19 #[.int .u64 3, .int .i64 2] w fun e w' => ∃ v', e = .returned v' ∧ Nrm w' v' 300 63 ∧ Below w.heap.size w w') := Lib.hid (fun w => fof_num (n := 3) (d := 2) rfl (by omega) (by omega))
  have DV : Hid (∀ va vb w, Nrm w va 100 63 → Nrm w vb 300 63 → Calls Tryd.prog 17 #[va, vb, .int .i64 2, .bool true] w fun e w' => ∃ v', e = .returned (.tuple #[v', .bool true]) ∧ Num w' v' 34 100 ∧ Below w.heap.size w w') := Lib.hid (fun va vb w h h' => (fdiv_num (d := 2) (up := true) h.num h'.num (by omega) (by omega) rfl (by omega) (by omega)).mono (by
    rintro e w' ⟨v, rfl, h1, h2⟩
    have e34 : quo (100 * 10 ^ 2) 300 true = 34 := by decide
    rw [e34] at h1
    exact ⟨v, rfl, (show Nrm w' v 34 100 from ⟨h1.1, Nat.lt_of_lt_of_le (by decide : 34 < 4294967296 ^ 1) (Nat.pow_le_pow_right (by omega) (by omega))⟩).num, h2⟩))
  have T1 : Hid (∀ v w, Num w v 34 100 → Calls Tryd.prog 30 #[v, .int .i64 2] w fun e w' => e = .returned (.string ⟨#[48, 46, 51, 52]⟩) ∧ Below w.heap.size w w') := Lib.hid (fun v w h => by
    have := ftext_num (d := 2) (z := 2) h (by omega) rfl (by omega)
    rw [show fixT 34 2 = [48, 46, 51, 52] by decide] at this
    exact this)
  have MU : Hid (∀ va w, Num w va 34 100 → Calls Tryd.prog 15 #[va, va, .int .i64 2, .bool false] w fun e w' => ∃ v', e = .returned v' ∧ Num w' v' 11 300 ∧ Below w.heap.size w w') := Lib.hid (fun va w h => (fmul_num (d := 2) (up := false) h h (by omega) (by omega) rfl (by omega)).mono (by
    rintro e w' ⟨v, rfl, h1, h2⟩
    have e11 : quo (34 * 34) (10 ^ 2) false = 11 := by decide
    rw [e11] at h1
    exact ⟨v, rfl, h1.num, h2⟩))
  have T2 : Hid (∀ v w, Num w v 11 300 → Calls Tryd.prog 30 #[v, .int .i64 2] w fun e w' => e = .returned (.string ⟨#[48, 46, 49, 49]⟩) ∧ Below w.heap.size w w') := Lib.hid (fun v w h => by
    have := ftext_num (d := 2) (z := 2) h (by omega) rfl (by omega)
    rw [show fixT 11 2 = [48, 46, 49, 49] by decide] at this
    exact this)
  go_enter Tryd.func13, Tryd.ntmps13
  go_wp2_with (first
    | (go_at_call 19; ((with_reducible refine (O1.out _).mono ?_); rintro e w1 ⟨v1, rfl, hv1, hb1⟩))
    | (go_at_call 19; ((with_reducible refine (O3.out _).mono ?_); rintro e w2 ⟨v2, rfl, hv2, hb2⟩; have hv12 := hv1.keep hb2; have hB2 := bel2' hb1 hb2))
    | (go_at_call 17; ((with_reducible refine (DV.out _ _ _ hv12 hv2).mono ?_); rintro e w3 ⟨v3, rfl, hv3, hb3⟩; have hB3 := bel2' hB2 hb3))
    | (go_at_call 30; ((with_reducible refine (T1.out _ _ hv3).mono ?_); rintro e w4 ⟨rfl, hb4⟩; have hB4 := bel2' hB3 hb4; have hv4 := hv3.keep hb4))
    | (go_at_call 15; ((with_reducible refine (MU.out _ _ hv4).mono ?_); rintro e w5 ⟨v5, rfl, hv5, hb5⟩; have hB5 := bel2' hB4 hb5))
    | (go_at_call 30; ((with_reducible refine (T2.out _ _ hv5).mono ?_); rintro e w6 ⟨rfl, hb6⟩; have hB6 := bel2' hB5 hb6)))
  go_ret
  exact ⟨rfl, hB6⟩

end Go.Proofs.YtaommeapngbgeaaDoor
