import Derived.Test.YteobjelenfjifaaDoorGQ
import Derived.Test.YteobjelenfjifaaDoorGG
import Derived.Test.YteobjelenfjifaaDoorGW
namespace Go.Proofs.YteobjelenfjifaaDoor
open Go.RowKit Go.Proofs.Kit Go.Proofs.Nums

theorem and3 (n : Int) : Go.bits .and .i64 n 3 = n % 4 := by
  have h3 : (BitVec.ofInt 64 3).toNat = 2 ^ 2 - 1 := by decide
  have key : (BitVec.ofInt 64 n &&& BitVec.ofInt 64 3).toNat = (n % ((2 ^ 64 : Nat) : Int)).toNat % 2 ^ 2 := by
    rw [BitVec.toNat_and, BitVec.toNat_ofInt, h3, Nat.and_two_pow_sub_one_eq_mod]
  show IntKind.i64.wrap ((BitVec.ofInt 64 n &&& BitVec.ofInt 64 3).toNat : Nat) = n % 4
  rw [key, IntKind.wrap_i64]
  omega

/-- The four numbers of NatForm. -/
structure Four (w : World) (va vb vx vy : Value) (n m : Nat) : Prop where
  a : Num w va n 6
  b : Num w vb m 6
  x : Num w vx n 9
  y : Num w vy m 9
theorem Four.keep {w w' : World} {va vb vx vy : Value} {n m : Nat} (h : Four w va vb vx vy n m) (hb : Below w.heap.size w w') : Four w' va vb vx vy n m := ⟨h.a.keep hb, h.b.keep hb, h.x.keep hb, h.y.keep hb⟩

theorem nrm_nil (w : World) (L : Nat) : Nrm w (.slice none 0 0) 0 L := ⟨NatAt.nil w, Nat.pow_pos (by omega)⟩

theorem sub_both (n m : Nat) : ∃ (ok : Bool) (P : Nat), ∀ (va vb : Value) (L : Nat) (w : World), Num w va n L → Num w vb m L → L ≤ 1000000 →
    Calls Tryd.prog 21 #[va, vb] w fun e w' => ∃ v', e = .returned (.tuple #[v', .bool ok]) ∧ Nrm w' v' P L ∧ Below w.heap.size w w' := by
  rcases Nat.lt_or_ge n m with h | h
  · refine ⟨false, 0, fun va vb L w h1 h2 hL => (sub_lt h1 h2 hL hL h).mono ?_⟩
    rintro e w' ⟨rfl, hb⟩
    exact ⟨_, rfl, nrm_nil _ _, hb⟩
  · exact ⟨true, n - m, fun va vb L w h1 h2 hL => sub_ge h1 h2 hL hL h⟩

theorem div_both (n m : Nat) : ∃ (ok : Bool) (Q R : Nat), ∀ (va vb : Value) (L : Nat) (w : World), Num w va n L → Num w vb m L → L ≤ 900000 →
    Calls Tryd.prog 35 #[va, vb] w fun e w' => ∃ vq vr, e = .returned (.tuple #[vq, vr, .bool ok]) ∧ Nrm w' vq Q L ∧ Nrm w' vr R L ∧ Below w.heap.size w w' := by
  rcases Nat.eq_zero_or_pos m with h | h
  · subst h
    refine ⟨false, 0, 0, fun va vb L w h1 h2 hL => (div_zero h1 h2).mono ?_⟩
    rintro e w' ⟨rfl, rfl⟩
    exact ⟨_, _, rfl, nrm_nil _ _, nrm_nil _ _, Below.refl _ _⟩
  · exact ⟨true, n / m, n % m, fun va vb L w h1 h2 hL => div_num h1 h2 hL hL h⟩

theorem zeros_row {x : List Nat} {k : Nat} : x.map limbV ++ List.replicate k (Value.int .u32 0) = (x ++ List.replicate k 0).map limbV := by
  rw [List.map_append, List.map_replicate]; rfl
theorem zeros_num {w : World} {B : Nat} {v : Value} {x : List Nat} {n k c : Nat} (hx : Lim x) (hv : val x = n) (hl : x.length ≤ 6) (hk : k ≤ 3) (h : w.ownsRow B 60 1 v c (x.map limbV ++ List.replicate k (Value.int .u32 0))) : Num w v n 9 := by
  rw [zeros_row] at h
  refine ⟨x ++ List.replicate k 0, ⟨RowAt.owned h, hx.app (Lim.zeros k)⟩, ?_, by rw [List.length_append, List.length_replicate]; omega⟩
  rw [val_app, val_zeros, hv]; omega

theorem limb_one (x : List Nat) : ∀ u ∈ x.map limbV, u.oneCell' = true := fun u hu => by
  obtain ⟨y, _, rfl⟩ := List.mem_map.1 hu; rfl

theorem cmp_n {va vb : Value} {n m L M : Nat} {c : Int} {w : World} (ha : Num w va n L) (hb : Num w vb m M) (hL : L ≤ 1000000) (hM : M ≤ 1000000) (h : Hid (cmpN n m = c)) :
    Calls Tryd.prog 27 #[va, vb] w fun e w' => e = .returned (.int .i64 c) ∧ Below w.heap.size w w' := by
  have := cmp_num ha hb hL hM
  rw [h.out] at this; exact this

set_option maxRecDepth 100000 in
set_option maxHeartbeats 8000000 in
theorem walk_NatForm {w : World} (va : Value) (a : List Nat) (ha : NatAt w va a) (vb : Value) (b : List Nat) (hb : NatAt w vb b) (z : Int) (_ : -9223372036854775808 ≤ z) (_ : z ≤ 9223372036854775807) :
    Calls Tryd.prog 13 #[va, vb, .int .i64 z] w fun e w' => e = .returned (.bool true) ∧ Below w.heap.size w w' := by
  obtain ⟨n, sa⟩ := short_at ha 6 (by omega) 6 rfl
  obtain ⟨m, sb⟩ := short_at hb 6 (by omega) 6 rfl
  have SA := Lib.hid sa
  have SB := Lib.hid sb
  obtain ⟨ok, P, sub⟩ := sub_both n m
  obtain ⟨ok2, Q, R, div⟩ := div_both n m
  have SUB := Lib.hid sub
  have DIV := Lib.hid div
  obtain ⟨C, hC⟩ : ∃ C, cmpN n m = C := ⟨_, rfl⟩
  have HC := Lib.hid hC
  obtain ⟨T, hT⟩ : ∃ T : ByteArray, (⟨(decB n).toArray⟩ : ByteArray) = T := ⟨_, rfl⟩
  have TX : Hid (∀ v w L, Num w v n L → L ≤ 1000 → Calls Tryd.prog 30 #[v] w fun e w' => e = .returned (.string T) ∧ Below w.heap.size w w') := Lib.hid (fun v w L h hL => by have := text_num h hL; rw [hT] at this; exact this)
  obtain ⟨M1, hM1⟩ : ∃ M1 : Nat, Go.bits .and .i64 z 3 = (M1 : Int) ∧ M1 ≤ 3 := ⟨(z % 4).toNat, by rw [and3]; omega, by omega⟩
  obtain ⟨M2, hM2⟩ : ∃ M2 : Nat, Go.bits .and .i64 (z / 4) 3 = (M2 : Int) ∧ M2 ≤ 3 := ⟨(z / 4 % 4).toNat, by rw [and3]; omega, by omega⟩
  obtain ⟨e1, l1⟩ := hM1
  obtain ⟨e2, l2⟩ := hM2
  clear sa sb sub div ha hb hC hT
  go_enter Tryd.func13, Tryd.ntmps13
  go_wp2_with (first
    | (go_at_call 14; ((with_reducible refine SA.out.mono ?_); rintro e w1 ⟨v1, rfl, hv1, rfl⟩; obtain ⟨x, hx, hxv, hxl⟩ := hv1; have HX := Lib.hid hxv; have hxlim := Lib.hid hx.2; clear hxv))
    | (go_at_call 14; ((with_reducible refine SB.out.mono ?_); rintro e w2 ⟨v2, rfl, hv2, rfl⟩; obtain ⟨y, hy, hyv, hyl⟩ := hv2; have HY := Lib.hid hyv; have hylim := Lib.hid hy.2; clear hyv; obtain ⟨xp, xc, rfl⟩ := hx.shape; obtain ⟨yp, yc, rfl⟩ := hy.shape; have hx0 := Lib.hid hx; have hy0 := Lib.hid hy; clear hx hy))
    | (at_builtin; (refine append_read er24 (by rfl) (by rfl) (World.ownsRow_nil w w.heap.size 60 1) (by rfl) hx0.out.1 (by rfl) (limb_one x) (by rw [List.length_map]; omega) (by rw [List.length_map]; omega) (Nat.le_refl _) ?_); intro v3 w3 hown3 hb3; have hy3 := hy0.out.keep hb3; have hxn := hx0.out.keep hb3)
    | (at_builtin; (refine append_zeros er24 Tryd.underlying3 rfl rfl rfl rfl hown3 rfl rfl (by rw [List.length_map]; omega) (by rw [List.length_map]; omega) hb3.size ?_); intro v4 w4 hown4 hb4; have hb4' := hb3.trans hb4; have hn4 := zeros_num hxlim.out HX.out hxl l1 hown4; have hy4 := hy0.out.keep hb4'; have hx4 := hx0.out.keep hb4'; clear hy3 hxn hown3)
    | (at_builtin; (refine append_read er24 (by rfl) (by rfl) (World.ownsRow_nil w4 w4.heap.size 60 1) (by rfl) hy4.1 (by rfl) (limb_one y) (by rw [List.length_map]; omega) (by rw [List.length_map]; omega) (Nat.le_refl _) ?_); intro v5 w5 hown5 hb5)
    | (at_builtin; (refine append_zeros er24 Tryd.underlying3 rfl rfl rfl rfl hown5 rfl rfl (by rw [List.length_map]; omega) (by rw [List.length_map]; omega) hb5.size ?_); intro v6 w6 hown6 hb6; have hb6a := hb5.trans hb6; have hb6' := bel2' hb4' hb6a; have f6 : Four w6 _ _ v4 v6 n m := ⟨⟨x, hx4.keep hb6a, HX.out, hxl⟩, ⟨y, hy4.keep hb6a, HY.out, hyl⟩, hn4.keep hb6a, zeros_num hylim.out HY.out hyl l2 hown6⟩; clear hx4 hy4 hn4 hown5 hown6)
    | (go_at_call 21; ((with_reducible refine (SUB.out _ _ _ _ f6.a f6.b (by omega)).mono ?_); rintro e w7 ⟨v7, rfl, p7, hb7⟩; have hb7' := bel2' hb6' hb7; have f7 := f6.keep hb7; clear f6))
    | (go_at_call 21; ((with_reducible refine (SUB.out _ _ _ _ f7.x f7.y (by omega)).mono ?_); rintro e w8 ⟨v8, rfl, p8, hb8⟩; have hb8' := bel2' hb7' hb8; have f8 := f7.keep hb8; have p7b := p7.keep hb8; clear f7 p7))
    | (go_at_call 35; ((with_reducible refine (DIV.out _ _ _ _ f8.a f8.b (by omega)).mono ?_); rintro e w9 ⟨v9, u9, rfl, q9, r9, hb9⟩; have hb9' := bel2' hb8' hb9; have f9 := f8.keep hb9; have p7c := p7b.keep hb9; have p8c := p8.keep hb9; clear f8 p7b p8))
    | (go_at_call 35; ((with_reducible refine (DIV.out _ _ _ _ f9.x f9.y (by omega)).mono ?_); rintro e w10 ⟨v10, u10, rfl, q10, r10, hb10⟩; have hb10' := bel2' hb9' hb10; have f10 := f9.keep hb10; have p7d := p7c.keep hb10; have p8d := p8c.keep hb10; have q9d := q9.keep hb10; have r9d := r9.keep hb10; clear f9 p7c p8c q9 r9))
    | (go_at_call 19; ((with_reducible refine (eq_num p7d p8d (by omega) (by omega) rfl).mono ?_); rintro e w11 ⟨rfl, hb11⟩; have hb11' := bel2' hb10' hb11; have f11 := f10.keep hb11; have q9e := q9d.keep hb11; have r9e := r9d.keep hb11; have q10e := q10.keep hb11; have r10e := r10.keep hb11; clear f10 p7d p8d q9d r9d q10 r10))
    | (go_at_call 19; ((with_reducible refine (eq_num q9e q10e (by omega) (by omega) rfl).mono ?_); rintro e w12 ⟨rfl, hb12⟩; have hb12' := bel2' hb11' hb12; have f12 := f11.keep hb12; have r9f := r9e.keep hb12; have r10f := r10e.keep hb12; clear f11 q9e q10e r9e r10e))
    | (go_at_call 19; ((with_reducible refine (eq_num r9f r10f (by omega) (by omega) rfl).mono ?_); rintro e w13 ⟨rfl, hb13⟩; have hb13' := bel2' hb12' hb13; have f13 := f12.keep hb13; clear f12 r9f r10f))
    | (go_at_call 18; ((with_reducible refine (awake_any _).mono ?_); rintro e w14 ⟨rfl, hb14⟩; have hb14' := bel2' hb13' hb14; have f14 := f13.keep hb14; clear f13))
    | (go_at_call 20; ((with_reducible refine (norm_num f14.x (by omega)).mono ?_); rintro e w15 ⟨v15, rfl, n15, hb15⟩; have hb15' := bel2' hb14' hb15; have f15 := f14.keep hb15; clear f14))
    | (go_at_call 20; ((with_reducible refine (norm_num f15.a (by omega)).mono ?_); rintro e w16 ⟨v16, rfl, n16, hb16⟩; have hb16' := bel2' hb15' hb16; have f16 := f15.keep hb16; have n15b := n15.keep hb16; clear f15 n15))
    | (go_at_call 19; ((with_reducible refine (eq_num n15b n16 (by omega) (by omega) rfl).mono ?_); rintro e w17 ⟨rfl, hb17⟩; have hb17' := bel2' hb16' hb17; have f17 := f16.keep hb17; clear f16 n15b n16))
    | (go_at_call 20; ((with_reducible refine (norm_num f17.x (by omega)).mono ?_); rintro e w18 ⟨v18, rfl, n18, hb18⟩; have hb18' := bel2' hb17' hb18; have f18 := f17.keep hb18; clear f17))
    | (go_at_call 17; ((with_reducible refine (from_num f18.a (by omega)).mono ?_); rintro e w19 ⟨v19, rfl, b19, hb19⟩; have hb19' := bel2' hb18' hb19; have f19 := f18.keep hb19; have n18b := n18.keep hb19; clear f18 n18))
    | (go_at_call 23; ((with_reducible refine (is_num n18b b19 (by omega)).mono ?_); rintro e w20 ⟨rfl, hb20⟩; have hb20' := bel2' hb19' hb20; have f20 := f19.keep hb20; clear f19 n18b b19))
    | (go_at_call 27; ((with_reducible refine (cmp_n f20.x f20.y (by omega) (by omega) HC).mono ?_); rintro e w21 ⟨rfl, hb21⟩; have hb21' := bel2' hb20' hb21; have f21 := f20.keep hb21; clear f20))
    | (go_at_call 27; ((with_reducible refine (cmp_n f21.a f21.b (by omega) (by omega) HC).mono ?_); rintro e w22 ⟨rfl, hb22⟩; have hb22' := bel2' hb21' hb22; have f22 := f21.keep hb22; clear f21))
    | (go_at_call 39; ((with_reducible refine (bits_num f22.x (by omega)).mono ?_); rintro e w23 ⟨rfl, hb23⟩; have hb23' := bel2' hb22' hb23; have f23 := f22.keep hb23; clear f22))
    | (go_at_call 17; ((with_reducible refine (from_num f23.a (by omega)).mono ?_); rintro e w24 ⟨v24, rfl, b24, hb24⟩; have hb24' := bel2' hb23' hb24; have f24 := f23.keep hb24; obtain ⟨p24, c24, rfl⟩ := b24.shape; clear f23 b24))
    | (go_at_call 30; ((with_reducible refine (TX.out _ _ _ f24.x (by omega)).mono ?_); rintro e w25 ⟨rfl, hb25⟩; have hb25' := bel2' hb24' hb25; have f25 := f24.keep hb25; clear f24))
    | (go_at_call 30; ((with_reducible refine (TX.out _ _ _ f25.a (by omega)).mono ?_); rintro e w26 ⟨rfl, hb26⟩; have hb26' := bel2' hb25' hb26; have f26 := f25.keep hb26; clear f25))
    | (go_at_call 28; ((with_reducible refine (mul_num f26.x f26.y (by omega) (by omega)).mono ?_); rintro e w27 ⟨v27, rfl, m27, hb27⟩; have hb27' := bel2' hb26' hb27; have f27 := f26.keep hb27; clear f26))
    | (go_at_call 28; ((with_reducible refine (mul_num f27.a f27.b (by omega) (by omega)).mono ?_); rintro e w28 ⟨v28, rfl, m28, hb28⟩; have hb28' := bel2' hb27' hb28; have f28 := f27.keep hb28; have m27b := m27.keep hb28; clear f27 m27))
    | (go_at_call 19; ((with_reducible refine (eq_num m27b m28 (by omega) (by omega) rfl).mono ?_); rintro e w29 ⟨rfl, hb29⟩; have hb29' := bel2' hb28' hb29; have f29 := f28.keep hb29; clear f28 m27b m28))
    | (go_at_call 37; ((with_reducible refine (gcd_num f29.x f29.y (by omega)).mono ?_); rintro e w30 ⟨v30, rfl, g30, hb30⟩; have hb30' := bel2' hb29' hb30; have f30 := f29.keep hb30; clear f29))
    | (go_at_call 37; ((with_reducible refine (gcd_num f30.a f30.b (by omega)).mono ?_); rintro e w31 ⟨v31, rfl, g31, hb31⟩; have hb31' := bel2' hb30' hb31; have g30b := g30.keep hb31; clear f30 g30))
    | (go_at_call 19; ((with_reducible refine (eq_num g30b g31 (by omega) (by omega) rfl).mono ?_); rintro e w32 ⟨rfl, hb32⟩; have hb32' := bel2' hb31' hb32; clear g30b g31)))
  go_ret
  exact ⟨rfl, hb32'⟩

end Go.Proofs.YteobjelenfjifaaDoor
