import Derived.Test.YteobjelenfjifaaDoorDd
namespace Go.Proofs.YteobjelenfjifaaDoor
open Go.RowKit Go.Proofs.Kit Go.Proofs.Nums

theorem RowAt.uniq {w : World} {v : Value} {cs cs' : List Value} (h : RowAt w v cs) (h' : RowAt w v cs') : cs = cs' := by
  obtain ⟨p, c, rfl, h1, h2, h3, h4⟩ := h
  obtain ⟨p', c', hv, k1, k2, k3, k4⟩ := h'
  simp only [Value.slice.injEq] at hv
  obtain ⟨rfl, hl, rfl⟩ := hv
  refine List.ext_getElem hl fun i i1 i2 => ?_
  cases p with
  | none => have := h3 rfl; omega
  | some q =>
    have e1 := h4 q rfl i _ (List.getElem?_eq_getElem i1)
    have e2 := k4 q rfl i _ (List.getElem?_eq_getElem i2)
    rw [e1] at e2
    exact Option.some.inj e2

theorem map_bool_inj : ∀ {a b : List Bool}, a.map Value.bool = b.map Value.bool → a = b
  | [], [], _ => rfl
  | [], _ :: _, h => by simp at h
  | _ :: _, [], h => by simp at h
  | x :: a, y :: b, h => by
    simp only [List.map_cons, List.cons.injEq, Value.bool.injEq] at h
    rw [h.1, map_bool_inj h.2]

theorem map_limb_inj : ∀ {a b : List Nat}, a.map limbV = b.map limbV → a = b
  | [], [], _ => rfl
  | [], _ :: _, h => by simp at h
  | _ :: _, [], h => by simp at h
  | x :: a, y :: b, h => by
    simp only [List.map_cons, List.cons.injEq, limbV, Value.int.injEq] at h
    rw [show x = y by omega, map_limb_inj h.2]

theorem BitAt.uniq {w : World} {v : Value} {n m : Nat} (h : BitAt w v (bitsN n)) (h' : BitAt w v (bitsN m)) : n = m := by
  have := map_bool_inj (RowAt.uniq h h')
  rw [← bval_bits n, this, bval_bits]

theorem NatAt.uniq {w : World} {v : Value} {n m : Nat} (h : NatAt w v (limbs n)) (h' : NatAt w v (limbs m)) : n = m := by
  have := map_limb_inj (RowAt.uniq h.1 h'.1)
  rw [← val_limbs n, this, val_limbs]

/-- The number that v denotes in w. -/
noncomputable def bitNum (w : World) (v : Value) : Nat := by
  classical exact if h : ∃ n, BitAt w v (bitsN n) then Classical.choose h else 0
theorem bitNum_eq {w : World} {v : Value} {n : Nat} (h : BitAt w v (bitsN n)) : bitNum w v = n := by
  have hx : ∃ n, BitAt w v (bitsN n) := ⟨n, h⟩
  unfold bitNum
  rw [dif_pos hx]
  exact BitAt.uniq (Classical.choose_spec hx) h
noncomputable def limbNum (w : World) (v : Value) : Nat := by
  classical exact if h : ∃ n, NatAt w v (limbs n) then Classical.choose h else 0
theorem limbNum_eq {w : World} {v : Value} {n : Nat} (h : NatAt w v (limbs n)) : limbNum w v = n := by
  have hx : ∃ n, NatAt w v (limbs n) := ⟨n, h⟩
  unfold limbNum
  rw [dif_pos hx]
  exact NatAt.uniq (Classical.choose_spec hx) h

theorem rtrim_n (v : Value) (n : Nat) (w : World) (h : BitAt w v (bitsN n)) (hl : (bitsN n).length ≤ 1000000) :
    Calls Tryd.prog 41 #[v] w fun e w' => ∃ v', e = .returned v' ∧ BitAt w' v' (bitsN n) ∧ Below w.heap.size w w' := by
  have := rtrim_any v _ w h hl
  rw [bval_bits] at this; exact this

theorem bits_len_pos {n : Nat} (h : 0 < n) : 0 < (bitsN n).length := List.length_pos_iff.2 fun e => by have := bits_eq_nil.1 e; omega

set_option maxHeartbeats 2000000 in
theorem rgcd_n (va vb : Value) (n m : Nat) (w : World) (ha : BitAt w va (bitsN n)) (hb : BitAt w vb (bitsN m)) (h1 : (bitsN n).length ≤ 40000) (h2 : (bitsN m).length ≤ 40000) :
    Calls Tryd.prog 38 #[va, vb] w fun e w' => ∃ v', e = .returned v' ∧ BitAt w' v' (bitsN (Nat.gcd n m)) ∧ Below w.heap.size w w' := by
  obtain ⟨G, hG⟩ : ∃ G, Nat.gcd n m = G := ⟨_, rfl⟩
  have HG := Lib.hid hG
  rw [hG]
  have H1 := Lib.hid h1
  have H2 := Lib.hid h2
  clear hG h1 h2
  go_enter Tryd.func38, Tryd.ntmps38
  go_wp2_with fail
  go_loopw [0, 1] (fun av bv wr => ∃ x y : Nat, BitAt wr av (bitsN x) ∧ BitAt wr bv (bitsN y) ∧ Hid ((bitsN x).length ≤ 40000) ∧ Hid ((bitsN y).length ≤ 40000) ∧ Hid (Nat.gcd x y = G) ∧ Below w.heap.size w wr) (fun _ bv wr => bitNum wr bv)
  case atStart => exact ⟨n, m, ha, hb, H1, H2, HG, Below.refl _ _⟩
  case round =>
    obtain ⟨x, y, hx, hy, hxl, hyl, hgc, hbel⟩ := hrel
    obtain ⟨p2, c2, rfl⟩ := hy.shape
    by_cases h0 : 0 < y
    · have hpos := bits_len_pos h0
      have HN : Hid (Nat.gcd y (x % y) = G) := Lib.hid (by rw [gcd_step]; exact hgc.out)
      have HL : Hid ((bitsN (x % y)).length ≤ 40000) := Lib.hid (Nat.le_trans (bits_len_mono (Nat.le_of_lt (Nat.mod_lt x h0))) hyl.out)
      have D := Lib.hid (rdiv_n _ _ x y wr hx hy hxl.out hyl.out h0)
      have HM := Lib.hid (bitNum_eq hy)
      have HLT := Lib.hid (Nat.mod_lt x h0)
      have HY := Lib.hid hy
      clear hx hy h0
      go_wp2_with (go_at_call 36; ((with_reducible refine D.out.mono ?_); rintro e w4 ⟨vq, vr, rfl, hvq, hvr, hb4⟩))
      go_roundw
      case rel => exact ⟨y, x % y, HY.out.keep hb4, hvr, hyl, HL, HN, bel2' hbel hb4⟩
      case measure => rw [HM.out, bitNum_eq hvr]; exact HLT.out
    · obtain rfl : y = 0 := by omega
      have HX : Hid (x = G) := Lib.hid (by rw [← hgc.out, Nat.gcd_zero_right])
      have T := Lib.hid (rtrim_n _ x wr hx (Nat.le_trans hxl.out (by omega)))
      have hzz : (bitsN 0).length = 0 := rfl
      clear hx hy h0
      go_wp2_with (go_at_call 41; ((with_reducible refine T.out.mono ?_); rintro e w4 ⟨v4, rfl, hv4, hb4⟩))
      go_ret
      exact ⟨_, rfl, by rw [← HX.out]; exact hv4, bel2' hbel hb4⟩

end Go.Proofs.YteobjelenfjifaaDoor
