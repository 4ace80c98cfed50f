import Derived.Test.YtlhkjkhbgebgiaaR11
namespace Go.Proofs.Ytlhkjkhbgebgiaa
open Go.RowKit Go.Proofs.Kit Go.Proofs.Nums

set_option maxRecDepth 100000 in
set_option maxHeartbeats 8000000 in
theorem radd_r {va vb : Value} {a b : Q} {w : World} (ha : RAt w va a) (hb : RAt w vb b) (sa : a.Sz 10000) (sb : b.Sz 10000) :
    Calls Try.prog 64 #[va, vb] w fun e w' => ∃ v', e = .returned v' ∧ RFr w' v' (Q.addR a b) w.heap.size ∧ Below w.heap.size w w' := by
  obtain ⟨p1, l1, k1, p2, l2, k2, rfl, hn, hd⟩ := ha.shape
  obtain ⟨p3, l3, k3, p4, l4, k4, rfl, hm, hc⟩ := hb.shape
  obtain ⟨an, n, d⟩ := a
  obtain ⟨bn, m, c⟩ := b
  simp only at hn hd hm hc
  have HN := Lib.hid (fun w' (h : Below w.heap.size w w') => hn.keep h)
  have HD := Lib.hid (fun w' (h : Below w.heap.size w w') => hd.keep h)
  have HM := Lib.hid (fun w' (h : Below w.heap.size w w') => hm.keep h)
  have HC := Lib.hid (fun w' (h : Below w.heap.size w w') => hc.keep h)
  have SA := Lib.hid sa
  have SB := Lib.hid sb
  have lx : Hid ((bitsN (n * c)).length ≤ 20000) := Lib.hid (Nat.le_trans (len_mul sa.1 sb.2) (by omega))
  have ly : Hid ((bitsN (m * d)).length ≤ 20000) := Lib.hid (Nat.le_trans (len_mul sb.1 sa.2) (by omega))
  have lz : Hid ((bitsN (d * c)).length ≤ 20000) := Lib.hid (Nat.le_trans (len_mul sa.2 sb.2) (by omega))
  have MX := Lib.hid (fun w' (h : Below w.heap.size w w') => rmul_b _ _ n c w' (hn.keep h) (hc.keep h) (Nat.le_trans sa.1 (by omega)) (Nat.le_trans sb.2 (by omega)))
  have MY := Lib.hid (fun w' (h : Below w.heap.size w w') => rmul_b _ _ m d w' (hm.keep h) (hd.keep h) (Nat.le_trans sb.1 (by omega)) (Nat.le_trans sa.2 (by omega)))
  have MZ := Lib.hid (fun w' (h : Below w.heap.size w w') => rmul_b _ _ d c w' (hd.keep h) (hc.keep h) (Nat.le_trans sa.2 (by omega)) (Nat.le_trans sb.2 (by omega)))
  have NM : Hid (∀ neg s va vb w, BitAt w va (bitsN s) → BitAt w vb (bitsN (d * c)) → Hid ((bitsN s).length ≤ 40000) → Calls Try.prog 61 #[.bool neg, va, vb] w fun e w' => ∃ v, e = .returned v ∧ RFr w' v (Q.mk' neg s (d * c)) w.heap.size ∧ Below w.heap.size w w') := Lib.hid (fun neg s va vb w h h' hs => rnorm_r h h' hs.out (Nat.le_trans lz.out (by omega)))
  have HADD : Hid (Q.addR ⟨an, n, d⟩ ⟨bn, m, c⟩ = Q.mk' (sumS an (n * c) bn (m * d)).1 (sumS an (n * c) bn (m * d)).2 (d * c)) := Lib.hid rfl
  rw [HADD.out]
  obtain ⟨X, hX⟩ : ∃ X, n * c = X := ⟨_, rfl⟩
  obtain ⟨Y, hY⟩ : ∃ Y, m * d = Y := ⟨_, rfl⟩
  obtain ⟨Z, hZ⟩ : ∃ Z, d * c = Z := ⟨_, rfl⟩
  rw [hX] at lx MX ⊢
  rw [hY] at ly MY ⊢
  rw [hZ] at lz MZ NM ⊢
  have b0 := (((Blk.new w #[.bool an, .slice p1 l1 k1, .slice p2 l2 k2] 77).alloc (.cells #[.bool bn, .slice p3 l3 k3, .slice p4 l4 k4] 77)).alloc (.cells #[.bool false, .slice none 0 0, .slice none 0 0] 77)).drew
  have b1 := ((Blk.new (w.alloc (.cells #[.bool an, .slice p1 l1 k1, .slice p2 l2 k2] 77)) #[.bool bn, .slice p3 l3 k3, .slice p4 l4 k4] 77).alloc (.cells #[.bool false, .slice none 0 0, .slice none 0 0] 77)).drew
  have b2 := (Blk.new ((w.alloc (.cells #[.bool an, .slice p1 l1 k1, .slice p2 l2 k2] 77)).alloc (.cells #[.bool bn, .slice p3 l3 k3, .slice p4 l4 k4] 77)) #[.bool false, .slice none 0 0, .slice none 0 0] 77).drew
  rw [World.size_alloc] at b1
  rw [World.size_alloc, World.size_alloc] at b2
  have hBd : Below w.heap.size w (((w.alloc (.cells #[.bool an, .slice p1 l1 k1, .slice p2 l2 k2] 77)).alloc (.cells #[.bool bn, .slice p3 l3 k3, .slice p4 l4 k4] 77)).alloc (.cells #[.bool false, .slice none 0 0, .slice none 0 0] 77)).drew := ((((Below.refl _ _).alloc (Nat.le_refl _) _).alloc (by simp) _).alloc (by simp; omega) _).drew
  clear hn hd hm hc ha hb sa sb HADD hX hY hZ
  go_enter Try.func64, Try.ntmps64
  go_wp2_with fail
  revert b0 b1 b2 hBd
  generalize ((w.alloc (.cells #[.bool an, .slice p1 l1 k1, .slice p2 l2 k2] 77)).alloc (.cells #[.bool bn, .slice p3 l3 k3, .slice p4 l4 k4] 77)).alloc (.cells #[.bool false, .slice none 0 0, .slice none 0 0] 77) = W
  intro b0 b1 b2 hBd
  have B0 := Lib.hid b0
  have B1 := Lib.hid b1
  have B2 := Lib.hid b2
  have s0 : W.drew.cell? ⟨w.heap.size, 0, none⟩ = some (.bool an) ∧ W.drew.cell? ⟨w.heap.size, 1, none⟩ = some (.slice p1 l1 k1) ∧ W.drew.cell? ⟨w.heap.size, 2, none⟩ = some (.slice p2 l2 k2) ∧ W.drew.cell? ⟨w.heap.size + 1, 0, none⟩ = some (.bool bn) ∧ W.drew.cell? ⟨w.heap.size + 1, 1, none⟩ = some (.slice p3 l3 k3) ∧ W.drew.cell? ⟨w.heap.size + 1, 2, none⟩ = some (.slice p4 l4 k4) :=
    ⟨b0.three.1, b0.three.2.1, b0.three.2.2, b1.three.1, b1.three.2.1, b1.three.2.2⟩
  have S0 := Lib.hid s0
  clear b0 b1 b2 s0
  go_region_held3 (fun w' => w'.cell? ⟨w.heap.size, 0, none⟩ = some (.bool an) ∧ w'.cell? ⟨w.heap.size, 1, none⟩ = some (.slice p1 l1 k1) ∧ w'.cell? ⟨w.heap.size, 2, none⟩ = some (.slice p2 l2 k2) ∧ w'.cell? ⟨w.heap.size + 1, 0, none⟩ = some (.bool bn) ∧ w'.cell? ⟨w.heap.size + 1, 1, none⟩ = some (.slice p3 l3 k3) ∧ w'.cell? ⟨w.heap.size + 1, 2, none⟩ = some (.slice p4 l4 k4))
    (first | exact S0.out | exact S3.out | exact S4.out | exact S5.out)
    (first
      | (go_at_call 35; ((with_reducible refine (MX.out _ hBd).mono ?_); rintro e w3 ⟨v3, rfl, hv3, hb3⟩; have hB3 := bel2' hBd hb3; have S3 := Lib.hid (Below.six hb3 S0.out)))
      | (go_at_call 35; ((with_reducible refine (MY.out _ hB3).mono ?_); rintro e w4 ⟨v4, rfl, hv4, hb4⟩; have hB4 := bel2' hB3 hb4; have S4 := Lib.hid (Below.six hb4 S3.out)))
      | (go_at_call 35; ((with_reducible refine (MZ.out _ hB4).mono ?_); rintro e w5 ⟨v5, rfl, hv5, hb5⟩; have hB5 := bel2' hB4 hb5; have S5 := Lib.hid (Below.six hb5 S4.out); have B2a := Lib.hid (((B2.out.keep hb3).keep hb4).keep hb5); have hX5 := Lib.hid ((hv3.keep hb4).keep hb5); have hY5 := Lib.hid (hv4.keep hb5); have hZ5 := Lib.hid hv5)))
  all_goals
    obtain ⟨g0, g1, g2, g3, g4, g5⟩ := S5.out
    clear hv3 hv4 hv5
    by_cases hs : an = bn
    · have hsb : (an == bn) = true := by rw [hs]; simp
      have e1 : sumS an X bn Y = (an, X + Y) := by unfold sumS; rw [if_pos hs]
      have E1 := Lib.hid e1
      have ls : Hid ((bitsN (X + Y)).length ≤ 40000) := Lib.hid (Nat.le_trans (len_add lx.out ly.out) (by omega))
      have AD := Lib.hid (fun w' (h : Below w5.heap.size w5 w') => radd_b v3 v4 X Y w' (hX5.out.keep h) (hY5.out.keep h) lx ly)
      have hdr := (Below.refl w5.heap.size w5).drew
      obtain ⟨j0, j1, j2, _, _, _⟩ := Below.six hdr S5.out
      clear hs e1
      go_wp2_with fail
      go_region_with (first
        | (go_at_call 51; ((with_reducible refine (AD.out _ hdr).mono ?_); rintro e w6 ⟨v6, rfl, hv6, hb6⟩; have hB6 := bel2' hdr hb6; obtain ⟨o0, o1, o2, _, _, _⟩ := Below.six hB6 S5.out))
        | (go_at_call 61; ((with_reducible refine (NM.out _ _ _ _ _ hv6 (hZ5.out.keep hB6) ls).mono ?_); rintro e w7 ⟨v7, rfl, hv7, hb7⟩; have hB7 := bel2' hB6 hb7; obtain ⟨x1, y1, z1, x2, y2, z2, rfl, f1, f2, f3, f4⟩ := hv7.shape; have B2b := Lib.hid (B2a.out.keep hB7); obtain ⟨m0, m1, m2⟩ := B2b.out.three; obtain ⟨t0, t1, t2⟩ := B2b.out.free3)))
      all_goals
        go_wp2_with fail
        refine bodyPost_ret (v := .agg #[.bool (Q.mk' an (X + Y) Z).neg, .slice x1 y1 z1, .slice x2 y2 z2]) (by simp [results, Try.results64, go_sem, m0, m1, m2]) rfl ?_
        have hz6 : w.heap.size + 1 + 1 + 1 ≤ w6.heap.size := Nat.le_trans (Nat.succ_le_of_lt B2a.out.1) hB6.size
        refine ⟨_, rfl, ?_⟩
        rw [E1.out]
        exact retR (bel2' hB5 hB7) (by omega) ⟨_, _, rfl, f1, f2, f3.mono hz6, f4.mono hz6⟩
    · have hsb : (an == bn) = false := by rw [beq_eq_false_iff_ne]; exact hs
      rcases Nat.lt_or_ge X Y with hxy | hxy
      · have e1 : sumS an X bn Y = (bn, Y - X) := by unfold sumS; rw [if_neg hs, if_neg (by omega)]
        have E1 := Lib.hid e1
        have ls : Hid ((bitsN (Y - X)).length ≤ 40000) := Lib.hid (Nat.le_trans (bits_len_mono (Nat.sub_le _ _)) (Nat.le_trans ly.out (by omega)))
        have hle := Lib.hid (Nat.le_of_lt hxy)
        have CM := Lib.hid (rcmp_b (c := -1) v3 v4 X Y w5 hX5.out hY5.out lx ly (Lib.hid (cmpN_lt hxy)))
        have SU := Lib.hid (fun w' (h : Below w5.heap.size w5 w') => rsub_b v4 v3 Y X w' (hY5.out.keep h) (hX5.out.keep h) ly hle)
        clear hs e1 hxy
        go_wp2_with (go_at_call 38; ((with_reducible refine CM.out.mono ?_); rintro e w6 ⟨rfl, hb6⟩))
        have hdr := hb6.drew
        obtain ⟨_, _, _, j3, j4, j5⟩ := Below.six hdr S5.out
        go_region_with (first
          | (go_at_call 76; ((with_reducible refine (SU.out _ hdr).mono ?_); rintro e w7 ⟨v7, rfl, hv7, hb7⟩; have hB7 := hdr.trans (hb7.mono hb6.size); obtain ⟨_, _, _, o3, o4, o5⟩ := Below.six hB7 S5.out))
          | (go_at_call 61; ((with_reducible refine (NM.out _ _ _ _ _ hv7 (hZ5.out.keep hB7) ls).mono ?_); rintro e w8 ⟨v8, rfl, hv8, hb8⟩; have hB8 := bel2' hB7 hb8; obtain ⟨x1, y1, z1, x2, y2, z2, rfl, f1, f2, f3, f4⟩ := hv8.shape; have B2b := Lib.hid (B2a.out.keep hB8); obtain ⟨m0, m1, m2⟩ := B2b.out.three; obtain ⟨t0, t1, t2⟩ := B2b.out.free3)))
        all_goals
          go_wp2_with fail
          refine bodyPost_ret (v := .agg #[.bool (Q.mk' bn (Y - X) Z).neg, .slice x1 y1 z1, .slice x2 y2 z2]) (by simp [results, Try.results64, go_sem, m0, m1, m2]) rfl ?_
          have hz7 : w.heap.size + 1 + 1 + 1 ≤ w7.heap.size := Nat.le_trans (Nat.succ_le_of_lt B2a.out.1) hB7.size
          refine ⟨_, rfl, ?_⟩
          rw [E1.out]
          exact retR (bel2' hB5 hB8) (by omega) ⟨_, _, rfl, f1, f2, f3.mono hz7, f4.mono hz7⟩
      · have e1 : sumS an X bn Y = (an, X - Y) := by unfold sumS; rw [if_neg hs, if_pos hxy]
        have E1 := Lib.hid e1
        have ls : Hid ((bitsN (X - Y)).length ≤ 40000) := Lib.hid (Nat.le_trans (bits_len_mono (Nat.sub_le _ _)) (Nat.le_trans lx.out (by omega)))
        have hle := Lib.hid hxy
        obtain ⟨cc, hcc⟩ : ∃ cc, cmpN X Y = cc := ⟨_, rfl⟩
        have hc0 : 0 ≤ cc := by rw [← hcc]; unfold cmpN; rw [if_neg (by omega)]; split <;> omega
        have CM := Lib.hid (rcmp_b (c := cc) v3 v4 X Y w5 hX5.out hY5.out lx ly (Lib.hid hcc))
        have SU := Lib.hid (fun w' (h : Below w5.heap.size w5 w') => rsub_b v3 v4 X Y w' (hX5.out.keep h) (hY5.out.keep h) lx hle)
        clear hs e1 hxy hcc
        go_wp2_with (go_at_call 38; ((with_reducible refine CM.out.mono ?_); rintro e w6 ⟨rfl, hb6⟩))
        have hdr := hb6.drew
        obtain ⟨j0, j1, j2, _, _, _⟩ := Below.six hdr S5.out
        go_region_with (first
          | (go_at_call 76; ((with_reducible refine (SU.out _ hdr).mono ?_); rintro e w7 ⟨v7, rfl, hv7, hb7⟩; have hB7 := hdr.trans (hb7.mono hb6.size); obtain ⟨o0, o1, o2, _, _, _⟩ := Below.six hB7 S5.out))
          | (go_at_call 61; ((with_reducible refine (NM.out _ _ _ _ _ hv7 (hZ5.out.keep hB7) ls).mono ?_); rintro e w8 ⟨v8, rfl, hv8, hb8⟩; have hB8 := bel2' hB7 hb8; obtain ⟨x1, y1, z1, x2, y2, z2, rfl, f1, f2, f3, f4⟩ := hv8.shape; have B2b := Lib.hid (B2a.out.keep hB8); obtain ⟨m0, m1, m2⟩ := B2b.out.three; obtain ⟨t0, t1, t2⟩ := B2b.out.free3)))
        all_goals
          go_wp2_with fail
          refine bodyPost_ret (v := .agg #[.bool (Q.mk' an (X - Y) Z).neg, .slice x1 y1 z1, .slice x2 y2 z2]) (by simp [results, Try.results64, go_sem, m0, m1, m2]) rfl ?_
          have hz7 : w.heap.size + 1 + 1 + 1 ≤ w7.heap.size := Nat.le_trans (Nat.succ_le_of_lt B2a.out.1) hB7.size
          refine ⟨_, rfl, ?_⟩
          rw [E1.out]
          exact retR (bel2' hB5 hB8) (by omega) ⟨_, _, rfl, f1, f2, f3.mono hz7, f4.mono hz7⟩

end Go.Proofs.Ytlhkjkhbgebgiaa
