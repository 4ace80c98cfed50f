import Derived.Test.YtlhkjkhbgebgiaaGO
namespace Go.Proofs.Ytlhkjkhbgebgiaa
open Go.RowKit Go.Proofs.Kit Go.Proofs.Nums

theorem made_bits {w : World} {base g n cap : Nat} (h : w.ownsRow base 4 1 (.slice (some ⟨g, 0, none⟩) n cap) n (madeCells (Value.bool false).cells (n * 1)).toList) :
    w.ownsRow base 4 1 (.slice (some ⟨g, 0, none⟩) n cap) n ((List.replicate n false).map Value.bool) := by
  rw [show (Value.bool false).cells = #[.bool false] from rfl, toList_madeCells_one, Nat.mul_one] at h
  rw [List.map_replicate]; exact h

set_option maxHeartbeats 1000000 in
theorem shift_any (v : Value) (l : List Bool) (i : Nat) (w : World) (h : BitAt w v l) (hl : l.length ≤ 100000) (hi : i ≤ 100000) :
    Calls Try.prog 52 #[v, .int .i64 i] w fun e w' => ∃ v', e = .returned v' ∧ BitAt w' v' (List.replicate i false ++ l) ∧ Below w.heap.size w w' := by
  have H := Lib.hid h
  clear h
  go_enter Try.func52, Try.ntmps52
  go_wp2_with (first
    | (at_make; go_must (refine make_any er65 rfl rfl rfl rfl (by omega) (by omega) (by omega) ?_); intro w3 hown3 hb3; have hown4 := made_bits hown3; clear hown3)
    | (at_builtin; go_must (refine append_read er65 (by rfl) (by rfl) hown4 (by rfl) (H.out.keep hb3) (by rfl) (bool_one l) (by rw [List.length_map]; omega) (by rw [List.length_map]; omega) hb3.size ?_); intro v' w1 hown1 hb1))
  go_ret
  refine ⟨_, rfl, ?_, hb3.trans hb1⟩
  have := RowAt.owned hown1
  rw [← List.map_append] at this
  exact this

set_option maxHeartbeats 4000000 in
theorem rmul_any (va vb : Value) (a b : List Bool) (w : World) (ha : BitAt w va a) (hb : BitAt w vb b) (hla : a.length ≤ 20000) (hlb : b.length ≤ 20000) :
    Calls Try.prog 35 #[va, vb] w fun e w' => ∃ v', e = .returned v' ∧ BitAt w' v' (bitsN (bval a * bval b)) ∧ Below w.heap.size w w' := by
  obtain ⟨p2, c2, rfl⟩ := hb.shape
  have HA := Lib.hid ha
  have HB := Lib.hid hb
  clear ha hb
  have LEN : Hid (∀ k, (bitsN (bval a * bval (b.take k))).length ≤ 40000) := Lib.hid (fun k => by
    refine Nat.le_trans (bits_len_le _ (a.length + (b.take k).length) ?_) (by rw [List.length_take]; omega)
    rw [Nat.pow_add]
    exact Nat.mul_lt_mul_of_lt_of_le (bval_lt a) (Nat.le_of_lt (bval_lt _)) (Nat.pow_pos (by omega)))
  go_enter Try.func35, Try.ntmps35
  go_wp2_with fail
  go_loopw [5, 6] (fun sv i wr => ∃ k : Nat, k ≤ b.length ∧ i = .int .i64 k ∧ BitAt wr sv (bitsN (bval a * bval (b.take k))) ∧ Below w.heap.size w wr) (fun _ i _ => b.length - (intOf i).toNat)
  case atStart => exact ⟨0, by omega, rfl, by simp only [List.take_zero, bval, Nat.mul_zero, bits_zero]; exact BitAt.nil _, Below.refl _ _⟩
  case round =>
    obtain ⟨k, hk, rfl, hS, hbel⟩ := hrel
    have HS := Lib.hid hS
    clear hS
    by_cases hlt : k < b.length
    · rcases (HB.out.keep hbel).cases with ⟨hx0, _⟩ | ⟨_, b1, o1, k1, hv1, hk1, hm1, hbb, hcell1⟩
      · rw [hx0] at hlt; simp at hlt
      simp only [Value.slice.injEq] at hv1
      obtain ⟨rfl, _, rfl⟩ := hv1
      have q1 := hcell1 k hlt
      clear hcell1
      cases hbit : bnth b k
      · rw [hbit] at q1
        go_wp2_with fail
        go_roundw
        case rel =>
          refine ⟨k + 1, by omega, by go_num, ?_, hbel⟩
          rw [bval_take_succ, hbit]
          simpa [bN] using HS.out
        case measure => simp [intOf] <;> omega
      · rw [hbit] at q1
        have SH := Lib.hid (shift_any va a k wr (HA.out.keep hbel) (by omega) (by omega))
        go_wp2_with (first
          | (go_at_call 52; ((with_reducible refine SH.out.mono ?_); rintro e w4 ⟨v4, rfl, hv4, hb4⟩))
          | (go_at_call 51; (refine (radd_any _ _ _ _ _ (HS.out.keep hb4) hv4 (Nat.le_trans (LEN.out k) (by omega)) (by rw [List.length_append, List.length_replicate]; omega)).mono ?_); rintro e w5 ⟨v5, rfl, hv5, hb5⟩))
        go_roundw
        case rel =>
          refine ⟨k + 1, by omega, by go_num, ?_, hbel.trans ((hb4.mono hbel.size).trans (hb5.mono (Nat.le_trans hbel.size hb4.size)))⟩
          rw [bval_bits, bval_app, bval_zeros, List.length_replicate] at hv5
          rw [bval_take_succ, hbit]
          have e : bval a * (bval (b.take k) + 2 ^ k * bN true) = bval a * bval (b.take k) + (0 + 2 ^ k * bval a) := by
            simp only [bN, if_true, Nat.mul_one, Nat.zero_add, Nat.mul_add]
            rw [Nat.mul_comm (bval a) (2 ^ k)]
          rw [e]; exact hv5
        case measure => simp [intOf] <;> omega
    · obtain rfl : k = b.length := by omega
      have hv : Hid (bitsN (bval a * bval b) = bitsN (bval (bitsN (bval a * bval (b.take b.length))))) := Lib.hid (by rw [bval_bits, List.take_length])
      go_wp2_with (go_at_call 53; refine (rtrim_any _ _ _ HS.out (Nat.le_trans (LEN.out _) (by omega))).mono ?_; rw [← hv.out]; rintro e w4 ⟨v4, rfl, hv4, hb4⟩)
      go_ret
      exact ⟨_, rfl, hv4, bel2' hbel hb4⟩

end Go.Proofs.Ytlhkjkhbgebgiaa
