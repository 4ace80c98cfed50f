import Derived.Test.YteobjelenfjifaaDoorDm
namespace Go.Proofs.YteobjelenfjifaaDoor
open Go.RowKit Go.Proofs.Kit Go.Proofs.Nums

theorem div_num {va vb : Value} {n m L M : Nat} {w : World} (ha : Num w va n L) (hb : Num w vb m M) (hL : L ≤ 900000) (hM : M ≤ 900000) (hm : 0 < m) :
    Calls Tryd.prog 35 #[va, vb] w (DivRet n m L M w) := by
  rcases Nat.lt_or_ge n m with h | h
  · exact div_less ha hb (by omega) (by omega) h
  · rcases Nat.lt_or_ge m 4294967296 with h2 | h2
    · exact div_one ha hb (by omega) h hm h2
    · exact div_long ha hb hL (by omega) h h2

theorem limbs_len_pos {n : Nat} (h : 0 < n) : 0 < (limbs n).length := List.length_pos_iff.2 fun e => by have := limbs_eq_nil.1 e; omega

set_option maxHeartbeats 2000000 in
theorem gcd_num {va vb : Value} {n m L : Nat} {w : World} (ha : Num w va n L) (hb : Num w vb m L) (hL : L ≤ 900000) :
    Calls Tryd.prog 37 #[va, vb] w fun e w' => ∃ v', e = .returned v' ∧ Nrm w' v' (Nat.gcd n m) L ∧ Below w.heap.size w w' := by
  obtain ⟨G, hG⟩ : ∃ G, Nat.gcd n m = G := ⟨_, rfl⟩
  have HG := Lib.hid hG
  rw [hG]
  have HA := Lib.hid ha
  have HB := Lib.hid hb
  clear hG ha hb
  go_enter Tryd.func37, Tryd.ntmps37
  go_wp2_with (first
    | (go_at_call 20; ((with_reducible refine (norm_num HA.out (by omega)).mono ?_); rintro e w1 ⟨v1, rfl, hv1, hb1⟩; have hbk := HB.out.keep hb1))
    | (go_at_call 20; ((with_reducible refine (norm_num hbk (by omega)).mono ?_); rintro e w2 ⟨v2, rfl, hv2, hb2⟩; have hb2' := bel2' hb1 hb2; have hv1b := hv1.keep hb2; clear hbk hv1)))
  go_loopw [0, 1] (fun av bv wr => ∃ x y : Nat, Nrm wr av x L ∧ Nrm wr bv y L ∧ Hid (Nat.gcd x y = G) ∧ Below w.heap.size w wr) (fun _ bv wr => limbNum wr bv)
  case atStart => exact ⟨n, m, hv1b, hv2, HG, hb2'⟩
  case round =>
    obtain ⟨x, y, hx, hy, hgc, hbel⟩ := hrel
    obtain ⟨p2, c2, rfl⟩ := hy.1.shape
    have hlen := hy.len
    by_cases h0 : 0 < y
    · have hpos := limbs_len_pos h0
      have HN : Hid (Nat.gcd y (x % y) = G) := Lib.hid (by rw [gcd_step]; exact hgc.out)
      have D := Lib.hid (div_num hx.num hy.num hL hL h0)
      have HM := Lib.hid (limbNum_eq hy.1)
      have HLT := Lib.hid (Nat.mod_lt x h0)
      have HY := Lib.hid hy
      clear hx hy h0
      go_wp2_with (go_at_call 35; ((with_reducible refine D.out.mono ?_); rintro e w4 ⟨vq, vr, rfl, hvq, hvr, hb4⟩))
      go_roundw
      case rel => exact ⟨y, x % y, HY.out.keep hb4, hvr, HN, bel2' hbel hb4⟩
      case measure => rw [HM.out, limbNum_eq hvr.1]; exact HLT.out
    · obtain rfl : y = 0 := by omega
      have HX : Hid (x = G) := Lib.hid (by rw [← hgc.out, Nat.gcd_zero_right])
      have HXX := Lib.hid hx
      have hzz : (limbs 0).length = 0 := rfl
      clear hx hy h0
      go_wp2_with fail
      go_ret
      exact ⟨_, rfl, by rw [← HX.out]; exact HXX.out, hbel⟩

theorem bits_len_limbs {n : Nat} (h : 0 < n) : (bitsN n).length = 32 * ((limbs n).length - 1) + (bitsN (nth (limbs n) ((limbs n).length - 1))).length := by
  obtain ⟨y, hy⟩ : ∃ y, limbs n = y := ⟨_, rfl⟩
  have hyl : Lim y := by rw [← hy]; exact limbs_lim n
  have hv : val y = n := by rw [← hy, val_limbs]
  have h0 : 0 < y.length := by rw [← hy]; exact limbs_len_pos h
  rw [hy]
  have h1 := top_le y h0
  have h2 := top_lt y hyl h0
  rw [hv, base_pow] at h1 h2
  obtain ⟨t, ht⟩ : ∃ t, nth y (y.length - 1) = t := ⟨_, rfl⟩
  rw [ht] at h1 h2 ⊢
  have ht0 : t ≠ 0 := by
    intro e
    have h5 := limbs_norm n
    rw [hy] at h5
    unfold Norm at h5
    apply h5
    rw [List.getLast?_eq_getElem?, List.getElem?_eq_getElem (by omega), ← nth_lt, ht, e]
  have h3 := bits_lt_pow t
  have h4 := pow_le_bits t ht0
  obtain ⟨k, hk⟩ : ∃ k, (bitsN t).length = k + 1 := ⟨(bitsN t).length - 1, by have := bits_len_pos (Nat.pos_of_ne_zero ht0); omega⟩
  rw [hk] at h3 h4 ⊢
  rw [Nat.add_sub_cancel] at h4
  obtain ⟨E, hE⟩ : ∃ E, 32 * (y.length - 1) = E := ⟨_, rfl⟩
  rw [hE] at h1 h2 ⊢
  apply Nat.le_antisymm
  · apply bits_len_le
    have h6 : 2 ^ E * (t + 1) ≤ 2 ^ E * 2 ^ (k + 1) := Nat.mul_le_mul_left _ h3
    rw [← Nat.pow_add] at h6
    omega
  · rcases Nat.lt_or_ge (bitsN n).length (E + (k + 1)) with h6 | h6
    · exfalso
      have h7 := bits_lt_pow n
      have h8 : 2 ^ (bitsN n).length ≤ 2 ^ (E + k) := Nat.pow_le_pow_right (by omega) (by omega)
      have h9 : 2 ^ E * 2 ^ k ≤ 2 ^ E * t := Nat.mul_le_mul_left _ h4
      rw [← Nat.pow_add] at h9
      omega
    · exact h6

set_option maxHeartbeats 2000000 in
theorem bits_num {va : Value} {n L : Nat} {w : World} (ha : Num w va n L) (hL : L ≤ 1000000) :
    Calls Tryd.prog 39 #[va] w fun e w' => e = .returned (.int .i64 ((bitsN n).length : Nat)) ∧ Below w.heap.size w w' := by
  obtain ⟨a, h1, hn, h3⟩ := ha
  have ca := trim_any va a w h1
  have lx := limbs_len_le (val a) a.length (val_lt a h1.2)
  rw [hn] at ca lx
  rcases Nat.eq_zero_or_pos n with h0 | h0
  · subst h0
    rw [limbs_zero] at ca
    have CA := Lib.hid ca
    clear h1 hn h3 ca lx
    go_enter Tryd.func39, Tryd.ntmps39
    go_wp2_with (go_at_call 40; ((with_reducible refine CA.out.mono ?_); rintro e w1 ⟨v1, rfl, hv1, rfl⟩; obtain ⟨p1, c1, rfl⟩ := hv1.shape; clear hv1))
    go_ret
    exact ⟨rfl, Below.refl _ _⟩
  · have hl := bits_len_limbs h0
    have hp := limbs_len_pos h0
    have hlim := limbs_lim n
    obtain ⟨y, hy⟩ : ∃ y, limbs n = y := ⟨_, rfl⟩
    rw [hy] at ca lx hl hp hlim
    obtain ⟨Y1, hY1⟩ : ∃ Y1, y.length - 1 = Y1 := ⟨_, rfl⟩
    rw [hY1] at hl
    have htop := hlim.nth Y1
    have hb32 := bits_len_le (nth y Y1) 32 (by omega)
    have LE : Hid (∀ w, Calls Tryd.prog 56 #[.int .u32 (nth y Y1 : Nat)] w fun e w' => e = .returned (.int .i64 ((bitsN (nth y Y1)).length : Nat)) ∧ w = w') := Lib.hid (fun w =>
      (Tryd.bits_Len32 (nth y Y1 : Int) w (by omega) (by omega)).mono fun e w' ⟨e1, e2⟩ => ⟨by rw [e1, ← bitLen_len _ htop]; rfl, e2.symm⟩)
    obtain ⟨B, hB⟩ : ∃ B, (bitsN (nth y Y1)).length = B := ⟨_, rfl⟩
    rw [hB] at LE hl hb32
    have HR : Hid ((bitsN n).length = 32 * Y1 + B) := Lib.hid hl
    have hY1i : (y.length : Int) - 1 = (Y1 : Int) := by omega
    have hY1l : Y1 < y.length := by omega
    have hYb : Y1 ≤ 1000000 := by omega
    have hzz : ((y.length : Int) == 0) = false := by rw [beq_eq_false_iff_ne]; omega
    have CA := Lib.hid ca
    clear h1 hn h3 ca hl hlim hy hB hY1 h0
    go_enter Tryd.func39, Tryd.ntmps39
    go_wp2_with (first
      | (go_at_call 40; ((with_reducible refine CA.out.mono ?_); rintro e w1 ⟨v1, rfl, hv1, rfl⟩; obtain ⟨p1, c1, rfl⟩ := hv1.shape; obtain ⟨b1, o1, rfl, hk1, hm1, q1⟩ := hv1.cellAt Y1 hY1l; clear hv1))
      | (go_at_call 56; ((with_reducible refine (LE.out _).mono ?_); rintro e w2 ⟨rfl, rfl⟩)))
    go_ret
    exact ⟨ret_val (by rw [HR.out]; go_num), Below.refl _ _⟩

end Go.Proofs.YteobjelenfjifaaDoor
