import Derived.Test.YteobjelenfjifaaDoorDk
namespace Go.Proofs.YteobjelenfjifaaDoor
open Go.RowKit Go.Proofs.Kit Go.Proofs.Nums

set_option maxHeartbeats 2000000 in
theorem div_one {va vb : Value} {n m L M : Nat} {w : World} (ha : Num w va n L) (hb : Num w vb m M) (hL : L ≤ 1000000) (hnm : m ≤ n) (hm0 : 0 < m) (hm1 : m < 4294967296) :
    Calls Tryd.prog 35 #[va, vb] w (DivRet n m L M w) := by
  have hnL : n / m < 4294967296 ^ L := Nat.lt_of_le_of_lt (Nat.div_le_self _ _) ha.lt
  have hmM : n % m < 4294967296 ^ M := Nat.lt_trans (Nat.mod_lt _ hm0) hb.lt
  obtain ⟨a, h1, hn, h3⟩ := ha
  obtain ⟨b, k1, hm, k3⟩ := hb
  have ca := trim_any va a w h1
  have cb := trim_any vb b w k1
  rw [hn] at ca
  rw [hm] at cb
  have lx := limbs_len_le (val a) a.length (val_lt a h1.2)
  rw [hn] at lx
  have hlim : limbs m = [m] := by rw [limbs_pos m (by omega), Nat.mod_eq_of_lt hm1, Nat.div_eq_of_lt hm1]; rfl
  rw [hlim] at cb
  obtain ⟨c, hc⟩ : ∃ c, cmpN n m = c := ⟨_, rfl⟩
  have hc0 : 0 ≤ c := by rw [← hc]; unfold cmpN; rw [if_neg (by omega)]; split <;> omega
  have CM : Hid (∀ v1 v2 w, NatAt w v1 (limbs n) → NatAt w v2 [m] → Calls Tryd.prog 27 #[v1, v2] w fun e w' => e = .returned (.int .i64 c) ∧ Below w.heap.size w w') := Lib.hid (fun v1 v2 w h h' => by
    have := cmp_any v1 v2 _ _ w h h' (by omega) (by simp)
    rw [val_limbs, ← hlim, val_limbs, hc] at this; exact this)
  have SD : Hid (∀ v w, NatAt w v (limbs n) → Calls Tryd.prog 47 #[v, .int .u64 m] w fun e w' => ∃ v', e = .returned (.tuple #[v', .int .u64 ((n % m : Nat) : Int)]) ∧ (∃ q, NatAt w' v' q ∧ val q = n / m ∧ q.length ≤ 1000000) ∧ Below w.heap.size w w') := Lib.hid (fun v w h => by
    have := sdiv_any v _ m w h (by omega) hm0 hm1
    rw [val_limbs] at this
    exact this.mono fun e w' ⟨v', e1, ⟨q, q1, q2, q3, _⟩, e3⟩ => ⟨v', e1, ⟨q, q1, q2, by omega⟩, e3⟩)
  have NO : Hid (∀ v w q, NatAt w v q → Hid (val q = n / m ∧ q.length ≤ 1000000) → Calls Tryd.prog 20 #[v] w fun e w' => ∃ v', e = .returned v' ∧ NatAt w' v' (limbs (n / m)) ∧ Below w.heap.size w w') := Lib.hid (fun v w q h h' => by
    have := norm_any v q w h (by have := h'.out.2; omega)
    rw [h'.out.1] at this; exact this)
  obtain ⟨R, hR⟩ : ∃ R, n % m = R := ⟨_, rfl⟩
  rw [hR] at SD
  have OF : Hid (∀ w, Calls Tryd.prog 16 #[.int .u64 R] w fun e w' => ∃ v', e = .returned v' ∧ NatAt w' v' (limbs R) ∧ Below w.heap.size w w') := Lib.hid (fun w => of_any R w (by have := Nat.mod_lt n hm0; omega))
  have CA := Lib.hid ca
  have CB := Lib.hid cb
  have HF : Hid (n % m = R ∧ n / m < 4294967296 ^ L ∧ n % m < 4294967296 ^ M) := Lib.hid ⟨hR, hnL, hmM⟩
  clear ca cb h1 k1 hn hm h3 k3 hnL hmM hnm lx hR hlim hc
  go_enter Tryd.func35, Tryd.ntmps35
  go_wp2_with (first
    | (go_at_call 40; ((with_reducible refine CA.out.mono ?_); rintro e w1 ⟨v1, rfl, hv1, rfl⟩))
    | (go_at_call 40; ((with_reducible refine CB.out.mono ?_); rintro e w2 ⟨v2, rfl, hv2, rfl⟩; obtain ⟨p2, c2, rfl⟩ := hv2.shape; rw [show [m].length = 1 from rfl] at hv2))
    | (go_at_call 27; ((with_reducible refine (CM.out _ _ _ hv1 hv2).mono ?_); rintro e w3 ⟨rfl, hb3⟩; have hv2b := hv2.keep hb3; obtain ⟨b1, o1, rfl, hk1, hm1, q1⟩ := hv2b.cellAt 0 (by simp); rw [show nth [m] 0 = m from rfl, Nat.add_zero] at q1; rw [show [m].length = 1 from rfl] at hk1; clear hv2b hv2))
    | (go_at_call 47; ((with_reducible refine (SD.out _ _ (hv1.keep hb3)).mono ?_); rintro e w4 ⟨v4, rfl, ⟨q, hq1, hq2⟩, hb4⟩; have hb4' := bel2' hb3 hb4; have HQ2 := Lib.hid hq2; clear hq2))
    | (go_at_call 20; ((with_reducible refine (NO.out _ _ _ hq1 HQ2).mono ?_); rintro e w5 ⟨v5, rfl, hv5, hb5⟩; have hb5' := bel2' hb4' hb5))
    | (go_at_call 16; ((with_reducible refine (OF.out _).mono ?_); rintro e w6 ⟨v6, rfl, hv6, hb6⟩; have hb6' := bel2' hb5' hb6)))
  go_ret3
  obtain ⟨f1, f2, f3⟩ := HF.out
  exact ⟨_, _, rfl, ⟨hv5.keep hb6, f2⟩, ⟨by rw [f1]; exact hv6, f3⟩, hb6'⟩

end Go.Proofs.YteobjelenfjifaaDoor
