import Derived.Test.YteobjelenfjifaaDoorDl
namespace Go.Proofs.YteobjelenfjifaaDoor
open Go.RowKit Go.Proofs.Kit Go.Proofs.Nums

set_option maxHeartbeats 4000000 in
theorem div_long {va vb : Value} {n m L M : Nat} {w : World} (ha : Num w va n L) (hb : Num w vb m M) (hL : L ≤ 900000) (hM : M ≤ 1000000) (hnm : m ≤ n) (hm1 : 4294967296 ≤ m) :
    Calls Tryd.prog 35 #[va, vb] w (DivRet n m L M w) := by
  have hm0 : 0 < m := by omega
  have hnL : n / m < 4294967296 ^ L := Nat.lt_of_le_of_lt (Nat.div_le_self _ _) ha.lt
  have hmM : n % m < 4294967296 ^ M := Nat.lt_trans (Nat.mod_lt _ hm0) hb.lt
  obtain ⟨a, h1, hn, h3⟩ := ha
  obtain ⟨b, k1, hm, k3⟩ := hb
  have ca := trim_any va a w h1
  have cb := trim_any vb b w k1
  rw [hn] at ca
  rw [hm] at cb
  have lx := limbs_len_le (val a) a.length (val_lt a h1.2)
  have ly := limbs_len_le (val b) b.length (val_lt b k1.2)
  rw [hn] at lx
  rw [hm] at ly
  have hmn : (limbs m).length ≤ (limbs n).length := by
    rcases Nat.lt_or_ge (limbs n).length (limbs m).length with h | h
    · have := len_lt h; omega
    · exact h
  have hnlt := limbs_lt_pow n
  have hpow := pow_le_limbs m (by omega)
  have hlm2 : 2 ≤ (limbs m).length := by
    rcases Nat.lt_or_ge (limbs m).length 2 with h | h
    · exfalso
      have h5 := limbs_lt_pow m
      have h6 : 4294967296 ^ (limbs m).length ≤ 4294967296 ^ 1 := Nat.pow_le_pow_right (by omega) (by omega)
      omega
    · exact h
  obtain ⟨c, hc⟩ : ∃ c, cmpN n m = c := ⟨_, rfl⟩
  have hc0 : 0 ≤ c := by rw [← hc]; unfold cmpN; rw [if_neg (by omega)]; split <;> omega
  obtain ⟨x, hx⟩ : ∃ x, limbs n = x := ⟨_, rfl⟩
  obtain ⟨y, hy⟩ : ∃ y, limbs m = y := ⟨_, rfl⟩
  have hxv : val x = n := by rw [← hx, val_limbs]
  have hyv : val y = m := by rw [← hy, val_limbs]
  have hyl : Lim y := by rw [← hy]; exact limbs_lim m
  have hyn : 0 < nth y (y.length - 1) := by
    have h5 := limbs_norm m
    rw [hy] at h5
    unfold Norm at h5
    rcases Nat.eq_zero_or_pos (nth y (y.length - 1)) with h | h
    · exfalso
      apply h5
      rw [hy] at hlm2
      rw [List.getLast?_eq_getElem?, List.getElem?_eq_getElem (by omega), ← nth_lt, h]
    · exact h
  rw [hx] at ca lx hmn hnlt
  rw [hy] at cb ly hmn hlm2 hpow
  have htop := hyl.nth (y.length - 1)
  obtain ⟨s, hs, hsb, ht1, ht2⟩ := lz_bounds hyn htop
  have hzl := shift_len y hy.symm (by omega) ht2 (by omega)
  have hzt := shift_top y _ hy.symm rfl (by omega) hzl ht1
  obtain ⟨z, hz⟩ : ∃ z, limbs (m * 2 ^ s) = z := ⟨_, rfl⟩
  rw [hz] at hzl hzt
  have hzv : val z = m * 2 ^ s := by rw [← hz, val_limbs]
  have CM : Hid (∀ v1 v2 w, NatAt w v1 x → NatAt w v2 y → Calls Tryd.prog 27 #[v1, v2] w fun e w' => e = .returned (.int .i64 c) ∧ Below w.heap.size w w') := Lib.hid (fun v1 v2 w h h' => by
    have := cmp_any v1 v2 _ _ w h h' (by omega) (by omega)
    rw [hxv, hyv, hc] at this; exact this)
  have LZ := Lib.hid (fun w => lz_any (nth y (y.length - 1)) s w htop hsb)
  have LX : Hid (∀ v w, NatAt w v x → Calls Tryd.prog 53 #[v, .int .i64 s] w fun e w' => ∃ o, e = .returned (.slice (some ⟨w.heap.size, 0, none⟩) (x.length + 1) (x.length + 1)) ∧ OwnNat w' w.heap.size w.heap.size (x.length + 1) (x.length + 1) o ∧ Hid (val o = n * 2 ^ s) ∧ Below w.heap.size w w') := Lib.hid (fun v w h => by
    have := left_any v x s w h (by omega) hs
    rw [hxv] at this; exact this)
  have LY : Hid (∀ v w, NatAt w v y → Calls Tryd.prog 53 #[v, .int .i64 s] w fun e w' => ∃ v' o, e = .returned v' ∧ NatAt w' v' o ∧ Hid (val o = m * 2 ^ s) ∧ v'.ownBlock = some w.heap.size ∧ Below w.heap.size w w') := Lib.hid (fun v w h => by
    have := left_any v y s w h (by omega) hs
    rw [hyv] at this
    exact this.mono fun e w' ⟨o, e1, e2, e3, e4⟩ => ⟨_, o, e1, e2.read, e3, rfl, e4⟩)
  have TZ : Hid (∀ v o w, NatAt w v o → Hid (val o = m * 2 ^ s) → Calls Tryd.prog 40 #[v] w fun e w' => ∃ v', e = .returned v' ∧ NatAt w v' z ∧ w = w' ∧ (v'.ownBlock = none ∨ v'.ownBlock = v.ownBlock)) := Lib.hid (fun v o w h h' => by
    have := trim_at v o w h
    rw [h'.out, hz] at this; exact this)
  have LO : Hid (∀ vz o B g w, OwnNat w B g (x.length + 1) (x.length + 1) o → NatAt w vz z → Hid (vz.ownBlock ≠ some g) → B ≤ w.heap.size → Hid (val o = n * 2 ^ s) →
      Calls Tryd.prog 54 #[.slice (some ⟨g, 0, none⟩) (x.length + 1) (x.length + 1), vz] w fun e w' => ∃ v' q u', e = .returned v' ∧ NatAt w' v' q ∧ OwnNat w' B g (x.length + 1) (x.length + 1) u' ∧ Hid (val q = n / m ∧ val u' / 2 ^ s = n % m ∧ q.length ≤ 1000001) ∧ Below B w w') := Lib.hid (fun vz o B g w hO hZ hg hB hv => by
    have := long_any vz o z B g (x.length + 1) w (by rw [hO.1]; exact hO) hZ hg.out hB (by rw [hzl]; exact hlm2) (by rw [hO.1, hzl]; omega) (by rw [hO.1]; omega) hzt
      (by rw [hO.1, hzl, hzv]; exact long_start hO.2.1 hO.1 hv.out hnlt hpow (by omega) hmn)
    rw [hO.1] at this
    refine this.mono ?_
    rintro e w' ⟨v', q, u', e1, e2, e3, e4, e5⟩
    have e6 := e4.out
    rw [hv.out, hzv] at e6
    have e7 := long_end e6.1 e6.2.1
    exact ⟨v', q, u', e1, e2, e3, Lib.hid ⟨e7.1, e7.2, Nat.le_trans e6.2.2 (by omega)⟩, e5⟩)
  have NO : Hid (∀ v w q, NatAt w v q → Hid (q.length ≤ 1000001) → Calls Tryd.prog 20 #[v] w fun e w' => ∃ v', e = .returned v' ∧ NatAt w' v' (limbs (val q)) ∧ Below w.heap.size w w') := Lib.hid (fun v w q h h' => norm_any v q w h (Nat.le_trans h'.out (by omega)))
  have RI : Hid (∀ v w o, NatAt w v o → Hid (o.length = x.length + 1) → Calls Tryd.prog 55 #[v, .int .i64 s] w fun e w' => ∃ v' o', e = .returned v' ∧ NatAt w' v' o' ∧ Hid (val o' = val o / 2 ^ s ∧ o'.length = o.length) ∧ Below w.heap.size w w') := Lib.hid (fun v w o h h' => right_any v o s w h (by rw [h'.out]; omega) hs)
  have HF : Hid (n / m < 4294967296 ^ L ∧ n % m < 4294967296 ^ M ∧ x.length + 1 ≤ 1000001) := Lib.hid ⟨hnL, hmM, by omega⟩
  have CA := Lib.hid ca
  have CB := Lib.hid cb
  have hzz : ((y.length : Int) == 0) = false := by rw [beq_eq_false_iff_ne]; omega
  have hz1 : ((y.length : Int) == 1) = false := by rw [beq_eq_false_iff_ne]; omega
  have HY1 : Hid (y.length - 1 < y.length) := Lib.hid (by omega)
  obtain ⟨Y1, hY1⟩ : ∃ Y1, y.length - 1 = Y1 := ⟨_, rfl⟩
  have hY1i : (y.length : Int) - 1 = (Y1 : Int) := by omega
  have hY1l : Y1 < y.length := by omega
  rw [hY1] at LZ htop
  clear ca cb h1 k1 hn hm h3 k3 hnL hmM hnm lx hc hm1 hnlt hpow hx hy hxv hyv hyl hyn hsb ht1 ht2 hzl hzt hz hzv hY1 hmn HY1
  go_enter Tryd.func35, Tryd.ntmps35
  go_wp2_with (first
    | (go_at_call 40; ((with_reducible refine CA.out.mono ?_); rintro e w1 ⟨v1, rfl, hv1, rfl⟩))
    | (go_at_call 40; ((with_reducible refine CB.out.mono ?_); rintro e w2 ⟨v2, rfl, hv2, rfl⟩; obtain ⟨p2, c2, rfl⟩ := hv2.shape))
    | (go_at_call 27; ((with_reducible refine (CM.out _ _ _ hv1 hv2).mono ?_); rintro e w3 ⟨rfl, hb3⟩; have hv2b := hv2.keep hb3; have hv1b := hv1.keep hb3; obtain ⟨b1, o1, rfl, hk1, hm1, q1⟩ := hv2b.cellAt Y1 hY1l; clear hv1 hv2))
    | (go_at_call 52; ((with_reducible refine (LZ.out _).mono ?_); rintro e w4 ⟨rfl, rfl⟩))
    | (go_at_call 53; ((with_reducible refine (LX.out _ _ hv1b).mono ?_); rintro e w5 ⟨o5, rfl, hv5, h5, hb5⟩; have hb5' := bel2' hb3 hb5; have hv2c := hv2b.keep hb5; have hlt5 := hv5.lt; have HV5 := Lib.hid hv5; clear hv1b hv2b hv5))
    | (go_at_call 53; ((with_reducible refine (LY.out _ _ hv2c).mono ?_); rintro e w6 ⟨v6, o6, rfl, hv6, h6, hob6, hb6⟩; have hb6' := bel2' hb5' hb6; have hv5c := HV5.out.keep hb6))
    | (go_at_call 40; ((with_reducible refine (TZ.out _ _ _ hv6 h6).mono ?_); rintro e w7 ⟨v7, rfl, hv7, rfl, hob7⟩; have hne7 : Hid (v7.ownBlock ≠ some w3.heap.size) := Lib.hid (ob_ne hob7 hob6 (by omega)); have hle7 : w3.heap.size ≤ w6.heap.size := Nat.le_trans hb5.size hb6.size))
    | (go_at_call 54; ((with_reducible refine (LO.out _ _ _ _ _ hv5c hv7 hne7 hle7 h5).mono ?_); rintro e w8 ⟨v8, q8, u8, rfl, hv8, hu8, h8, hb8⟩; have hb8' := hb6'.trans (hb8.mono hb3.size); have hq8 : Hid (q8.length ≤ 1000001) := Lib.hid h8.out.2.2; have hul8 : Hid (u8.length = x.length + 1) := Lib.hid hu8.1; have hr8 := hu8.read; clear hu8))
    | (go_at_call 20; ((with_reducible refine (NO.out _ _ _ hv8 hq8).mono ?_); rintro e w9 ⟨v9, rfl, hv9, hb9⟩; have hb9' := bel2' hb8' hb9; have hr9 := hr8.keep hb9; clear hv8))
    | (go_at_call 55; ((with_reducible refine (RI.out _ _ _ hr9 hul8).mono ?_); rintro e w10 ⟨v10, o10, rfl, hv10, h10, hb10⟩; have hb10' := bel2' hb9' hb10; have hv9b := hv9.keep hb10; have hl10 : Hid (o10.length ≤ 1000001) := Lib.hid (by rw [h10.out.2, hul8.out]; exact HF.out.2.2)))
    | (go_at_call 20; ((with_reducible refine (NO.out _ _ _ hv10 hl10).mono ?_); rintro e w11 ⟨v11, rfl, hv11, hb11⟩; have hb11' := bel2' hb10' hb11)))
  go_ret3
  obtain ⟨f1, f2, f3⟩ := HF.out
  obtain ⟨g1, g2, g3⟩ := h8.out
  rw [g1] at hv9b
  rw [h10.out.1, g2] at hv11
  exact ⟨_, _, rfl, ⟨hv9b.keep hb11, f1⟩, ⟨hv11, f2⟩, hb11'⟩

end Go.Proofs.YteobjelenfjifaaDoor
