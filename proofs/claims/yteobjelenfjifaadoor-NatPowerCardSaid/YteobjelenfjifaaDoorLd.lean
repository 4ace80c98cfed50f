import Derived.Test.YteobjelenfjifaaDoorOg
namespace Go.Proofs.YteobjelenfjifaaDoor
open Go.RowKit Go.Proofs.Kit Go.Proofs.Nums

theorem str_at {t : ByteArray} {l : List UInt8} (h : t.data.toList = l) (k : Nat) (hk : k < t.size) (hkl : k < l.length) : t[k] = l[k] := by
  show t.data[k]'hk = _
  rw [← Array.getElem_toList]; simp [h]

set_option maxRecDepth 1000000 in
set_option maxHeartbeats 4000000 in
theorem walk_NatPower {w : World} (z : Int) (hz1 : -9223372036854775808 ≤ z) (hz2 : z ≤ 9223372036854775807) :
    Calls Tryd.prog 6 #[.int .i64 z] w fun e w' => e = .returned (.bool true) ∧ Below w.heap.size w w' := by
  by_cases hin : 0 ≤ z ∧ z ≤ 60
  · obtain ⟨n, rfl⟩ := Int.eq_ofNat_of_zero_le hin.1
    have hn : n ≤ 60 := by omega
    have P := Lib.hid (pow10_in n w hn)
    obtain ⟨t, ht⟩ : ∃ t : ByteArray, t = ⟨(49 :: List.replicate n 48).toArray⟩ := ⟨_, rfl⟩
    have hl : t.data.toList = 49 :: List.replicate n 48 := by subst ht; rfl
    have hsz : t.size = n + 1 := by rw [Lib.size_eq, hl]; simp
    have T : Hid (∀ v l w, NatAt w v l → Hid (val l = 10 ^ n ∧ l.length ≤ 61) → Calls Tryd.prog 30 #[v] w fun e w' => e = .returned (.string t) ∧ Below w.heap.size w w') := Lib.hid (by
      intro v l w h1 h2
      have := text_any v l w h1 (Nat.le_trans h2.out.2 (by omega))
      rw [h2.out.1, dec_pow, ← ht] at this
      exact this)
    have h0 : t[0]'(by rw [hsz]; exact Nat.succ_pos n) = 49 := by rw [str_at hl 0 (by omega) (by simp)]; rfl
    have hk8 : ∀ k, 0 < k → (hk : k < t.size) → t[k] = 48 := fun k h1 hk => by
      obtain ⟨j, rfl⟩ : ∃ j, k = j + 1 := ⟨k - 1, by omega⟩
      rw [str_at hl (j + 1) hk (by simp; omega)]
      simp
    have HK := Lib.hid hk8
    clear hk8 hl ht
    go_enter Tryd.func6, Tryd.ntmps6
    go_wp2_with (first
      | (go_at_call 31; ((with_reducible refine P.out.mono ?_); rintro e w1 ⟨v1, l1, rfl, hv1, h1, hb1⟩))
      | (go_at_call 30; ((with_reducible refine (T.out _ _ _ hv1 h1).mono ?_); rintro e w2 ⟨rfl, hb2⟩; have hb2' := bel2' hb1 hb2)))
    go_loopw [4] (fun i wr => ∃ k : Nat, 1 ≤ k ∧ k ≤ n + 1 ∧ i = .int .i64 k ∧ (∃ q, wr = w2.drewN q)) (fun i _ => n + 1 - (intOf i).toNat)
    case atStart => exact ⟨1, by omega, by omega, rfl, ⟨0, rfl⟩⟩
    case round =>
      obtain ⟨k, hk1, hk2, rfl, ⟨q, rfl⟩⟩ := hrel
      by_cases hlt : k < n + 1
      · have hkk := HK.out k (by omega) (by omega)
        go_wp2_with fail
        go_roundw
        case rel => exact ⟨k + 1, by omega, by omega, by go_num, ⟨_, rfl⟩⟩
        case measure => simp [intOf] <;> omega
      · have A := Lib.hid (awake_any (w2.drewN q))
        go_wp2_with (go_at_call 18; ((with_reducible refine A.out.mono ?_); rintro e w3 ⟨rfl, hb3⟩))
        go_ret
        exact ⟨rfl, bel2' (below_drewN hb2' q) hb3⟩
  · have P := Lib.hid (pow10_out z w (by omega))
    have T : Hid (Calls Tryd.prog 30 #[.slice none 0 0] w fun e w' => e = .returned (.string ⟨#[48]⟩) ∧ Below w.heap.size w w') := Lib.hid (text_any _ [] w (NatAt.nil w) (by simp))
    have hz : z < 0 ∨ 60 < z := by omega
    rcases hz with hz | hz
    · go_enter Tryd.func6, Tryd.ntmps6
      go_wp2_with (first
        | (go_at_call 31; ((with_reducible refine P.out.mono ?_); rintro e w1 ⟨rfl, rfl⟩))
        | (go_at_call 30; ((with_reducible refine T.out.mono ?_); rintro e w2 ⟨rfl, hb2⟩))
        | (go_at_call 18; ((with_reducible refine (awake_any _).mono ?_); rintro e w3 ⟨rfl, hb3⟩)))
      go_ret
      exact ⟨rfl, bel2' hb2 hb3⟩
    · have hz0 : ¬ z < 0 := by omega
      go_enter Tryd.func6, Tryd.ntmps6
      go_wp2_with (first
        | (go_at_call 31; ((with_reducible refine P.out.mono ?_); rintro e w1 ⟨rfl, rfl⟩))
        | (go_at_call 30; ((with_reducible refine T.out.mono ?_); rintro e w2 ⟨rfl, hb2⟩))
        | (go_at_call 18; ((with_reducible refine (awake_any _).mono ?_); rintro e w3 ⟨rfl, hb3⟩)))
      go_ret
      exact ⟨rfl, bel2' hb2 hb3⟩

end Go.Proofs.YteobjelenfjifaaDoor
