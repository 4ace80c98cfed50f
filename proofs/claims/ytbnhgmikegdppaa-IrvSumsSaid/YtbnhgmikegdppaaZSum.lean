/- The statement IrvSums: for every input the law returns true and its arguments read as before. No condition. -/
import Derived.Test.YtbnhgmikegdppaaQO
import Derived.Deep.DeepCutAuto
import Derived.WalkKit
import Derived.ProofKit
import Derived.OpenShut
import Derived.ShutString
import Derived.ChangeOld
import Derived.Below
namespace Go.Proofs.Ytbnhgmikegdppaa
open Go.RowKit Go.Proofs.Kit Go.Proofs.Nums

set_option maxHeartbeats 4000000 in
theorem rfrom_r {v : Value} {q : Q} {L : Nat} {w : World} (h : RatAt w v q L) (hL : L ≤ 1000) :
    Calls Try.prog 24 #[v] w fun e w' => ∃ v', e = .returned v' ∧ RFr w' v' q.norm w.heap.size ∧ Below w.heap.size w w' := by
  obtain ⟨p1, l1, k1, p2, l2, k2, rfl, hn, hd⟩ := h.shape
  obtain ⟨neg, n, d⟩ := q
  have FN : Hid (∀ w', Below w.heap.size w w' → Calls Try.prog 55 #[.slice p1 l1 k1] w' fun e w'' => ∃ v', e = .returned v' ∧ BitAt w'' v' (bitsN n) ∧ Below w'.heap.size w' w'') := Lib.hid (fun w' hb => from_n (hn.keep hb) hL)
  have FD : Hid (∀ w', Below w.heap.size w w' → Calls Try.prog 55 #[.slice p2 l2 k2] w' fun e w'' => ∃ v', e = .returned v' ∧ BitAt w'' v' (bitsN d) ∧ Below w'.heap.size w' w'') := Lib.hid (fun w' hb => from_n (hd.keep hb) hL)
  have NM : Hid (∀ va vb w, BitAt w va (bitsN n) → BitAt w vb (bitsN d) → Calls Try.prog 54 #[.bool neg, va, vb] w fun e w' => ∃ v, e = .returned v ∧ RFr w' v (Q.mk' neg n d) w.heap.size ∧ Below w.heap.size w w') := Lib.hid (fun va vb w h h' => rnorm_r h h' (Nat.le_trans (num_bits hn) (by omega)) (Nat.le_trans (num_bits hd) (by omega)))
  clear hn hd h
  have hnorm : Q.norm ⟨neg, n, d⟩ = Q.mk' neg n d := rfl
  rw [hnorm]
  clear hnorm
  have b0 := ((Blk.new w #[.bool neg, .slice p1 l1 k1, .slice p2 l2 k2] 52).alloc (.cells #[.bool false, .slice none 0 0, .slice none 0 0] 57)).drew
  have b1 := (Blk.new (w.alloc (.cells #[.bool neg, .slice p1 l1 k1, .slice p2 l2 k2] 52)) #[.bool false, .slice none 0 0, .slice none 0 0] 57).drew
  rw [World.size_alloc] at b1
  have hBd : Below w.heap.size w ((w.alloc (.cells #[.bool neg, .slice p1 l1 k1, .slice p2 l2 k2] 52)).alloc (.cells #[.bool false, .slice none 0 0, .slice none 0 0] 57)).drew := (((Below.refl _ _).alloc (Nat.le_refl _) _).alloc (by simp) _).drew
  have hsz : w.heap.size + 2 ≤ ((w.alloc (.cells #[.bool neg, .slice p1 l1 k1, .slice p2 l2 k2] 52)).alloc (.cells #[.bool false, .slice none 0 0, .slice none 0 0] 57)).drew.heap.size := by simp
  go_enter Try.func24, Try.ntmps24
  go_wp2_with fail
  revert b0 b1 hBd hsz
  generalize ((w.alloc (.cells #[.bool neg, .slice p1 l1 k1, .slice p2 l2 k2] 52)).alloc (.cells #[.bool false, .slice none 0 0, .slice none 0 0] 57)) = W
  intro b0 b1 hBd hsz
  have B0 := Lib.hid b0
  have B1 := Lib.hid b1
  obtain ⟨c0, c1, c2⟩ := b0.three
  clear b0 b1
  go_region_with (first
    | (go_at_call 55; ((with_reducible refine (FN.out _ hBd).mono ?_); rintro e w3 ⟨v3, rfl, hv3, hb3⟩; have hB3 := bel2' hBd hb3; have B03 := Lib.hid (B0.out.keep hb3); have B13 := Lib.hid (B1.out.keep hb3); obtain ⟨d0, d1, d2⟩ := B03.out.three))
    | (go_at_call 55; ((with_reducible refine (FD.out _ hB3).mono ?_); rintro e w4 ⟨v4, rfl, hv4, hb4⟩; have hB4 := bel2' hB3 hb4; have B04 := Lib.hid (B03.out.keep hb4); have B14 := Lib.hid (B13.out.keep hb4); obtain ⟨e0, e1, e2⟩ := B04.out.three; have hv34 := hv3.keep hb4))
    | (go_at_call 54; ((with_reducible refine (NM.out _ _ _ hv34 hv4).mono ?_); rintro e w5 ⟨v5, rfl, hv5, hb5⟩; have hB5 := bel2' hB4 hb5; obtain ⟨x1, y1, z1, x2, y2, z2, rfl, g1, g2, g3, g4⟩ := hv5.shape; have B15 := Lib.hid (B14.out.keep hb5); obtain ⟨k0, k1', k2'⟩ := B15.out.three; obtain ⟨f0, f1, f2⟩ := B15.out.free3)))
  all_goals
    go_wp2_with fail
    refine bodyPost_ret (v := .agg #[.bool (Q.mk' neg n d).neg, .slice x1 y1 z1, .slice x2 y2 z2]) (by simp [results, Try.results24, go_sem, k0, k1', k2']) rfl ?_
    have hz5 : w.heap.size + 2 ≤ w4.heap.size := Nat.le_trans hsz (Nat.le_trans hb3.size hb4.size)
    exact ⟨_, rfl, retR hB5 (by omega) ⟨_, _, rfl, g1, g2, g3.mono (by omega), g4.mono (by omega)⟩⟩


end Go.Proofs.Ytbnhgmikegdppaa

namespace Go.Proofs.Ytbnhgmikegdppaa
open Go.RowKit Go.Proofs.Kit Go.Proofs.Nums

set_option maxRecDepth 100000 in
set_option maxHeartbeats 8000000 in
theorem radd_r {va vb : Value} {a b : Q} {w : World} (ha : RAt w va a) (hb : RAt w vb b) (sa : a.Sz 10000) (sb : b.Sz 10000) :
    Calls Try.prog 25 #[va, vb] w fun e w' => ∃ v', e = .returned v' ∧ RFr w' v' (Q.addR a b) w.heap.size ∧ Below w.heap.size w w' := by
  obtain ⟨p1, l1, k1, p2, l2, k2, rfl, hn, hd⟩ := ha.shape
  obtain ⟨p3, l3, k3, p4, l4, k4, rfl, hm, hc⟩ := hb.shape
  obtain ⟨an, n, d⟩ := a
  obtain ⟨bn, m, c⟩ := b
  simp only at hn hd hm hc
  have HN := Lib.hid (fun w' (h : Below w.heap.size w w') => hn.keep h)
  have HD := Lib.hid (fun w' (h : Below w.heap.size w w') => hd.keep h)
  have HM := Lib.hid (fun w' (h : Below w.heap.size w w') => hm.keep h)
  have HC := Lib.hid (fun w' (h : Below w.heap.size w w') => hc.keep h)
  have SA := Lib.hid sa
  have SB := Lib.hid sb
  have lx : Hid ((bitsN (n * c)).length ≤ 20000) := Lib.hid (Nat.le_trans (len_mul sa.1 sb.2) (by omega))
  have ly : Hid ((bitsN (m * d)).length ≤ 20000) := Lib.hid (Nat.le_trans (len_mul sb.1 sa.2) (by omega))
  have lz : Hid ((bitsN (d * c)).length ≤ 20000) := Lib.hid (Nat.le_trans (len_mul sa.2 sb.2) (by omega))
  have MX := Lib.hid (fun w' (h : Below w.heap.size w w') => rmul_b _ _ n c w' (hn.keep h) (hc.keep h) (Nat.le_trans sa.1 (by omega)) (Nat.le_trans sb.2 (by omega)))
  have MY := Lib.hid (fun w' (h : Below w.heap.size w w') => rmul_b _ _ m d w' (hm.keep h) (hd.keep h) (Nat.le_trans sb.1 (by omega)) (Nat.le_trans sa.2 (by omega)))
  have MZ := Lib.hid (fun w' (h : Below w.heap.size w w') => rmul_b _ _ d c w' (hd.keep h) (hc.keep h) (Nat.le_trans sa.2 (by omega)) (Nat.le_trans sb.2 (by omega)))
  have NM : Hid (∀ neg s va vb w, BitAt w va (bitsN s) → BitAt w vb (bitsN (d * c)) → Hid ((bitsN s).length ≤ 40000) → Calls Try.prog 54 #[.bool neg, va, vb] w fun e w' => ∃ v, e = .returned v ∧ RFr w' v (Q.mk' neg s (d * c)) w.heap.size ∧ Below w.heap.size w w') := Lib.hid (fun neg s va vb w h h' hs => rnorm_r h h' hs.out (Nat.le_trans lz.out (by omega)))
  have HADD : Hid (Q.addR ⟨an, n, d⟩ ⟨bn, m, c⟩ = Q.mk' (sumS an (n * c) bn (m * d)).1 (sumS an (n * c) bn (m * d)).2 (d * c)) := Lib.hid rfl
  rw [HADD.out]
  obtain ⟨X, hX⟩ : ∃ X, n * c = X := ⟨_, rfl⟩
  obtain ⟨Y, hY⟩ : ∃ Y, m * d = Y := ⟨_, rfl⟩
  obtain ⟨Z, hZ⟩ : ∃ Z, d * c = Z := ⟨_, rfl⟩
  rw [hX] at lx MX ⊢
  rw [hY] at ly MY ⊢
  rw [hZ] at lz MZ NM ⊢
  have b0 := (((Blk.new w #[.bool an, .slice p1 l1 k1, .slice p2 l2 k2] 57).alloc (.cells #[.bool bn, .slice p3 l3 k3, .slice p4 l4 k4] 57)).alloc (.cells #[.bool false, .slice none 0 0, .slice none 0 0] 57)).drew
  have b1 := ((Blk.new (w.alloc (.cells #[.bool an, .slice p1 l1 k1, .slice p2 l2 k2] 57)) #[.bool bn, .slice p3 l3 k3, .slice p4 l4 k4] 57).alloc (.cells #[.bool false, .slice none 0 0, .slice none 0 0] 57)).drew
  have b2 := (Blk.new ((w.alloc (.cells #[.bool an, .slice p1 l1 k1, .slice p2 l2 k2] 57)).alloc (.cells #[.bool bn, .slice p3 l3 k3, .slice p4 l4 k4] 57)) #[.bool false, .slice none 0 0, .slice none 0 0] 57).drew
  rw [World.size_alloc] at b1
  rw [World.size_alloc, World.size_alloc] at b2
  have hBd : Below w.heap.size w (((w.alloc (.cells #[.bool an, .slice p1 l1 k1, .slice p2 l2 k2] 57)).alloc (.cells #[.bool bn, .slice p3 l3 k3, .slice p4 l4 k4] 57)).alloc (.cells #[.bool false, .slice none 0 0, .slice none 0 0] 57)).drew := ((((Below.refl _ _).alloc (Nat.le_refl _) _).alloc (by simp) _).alloc (by simp; omega) _).drew
  clear hn hd hm hc ha hb sa sb HADD hX hY hZ
  go_enter Try.func25, Try.ntmps25
  go_wp2_with fail
  revert b0 b1 b2 hBd
  generalize ((w.alloc (.cells #[.bool an, .slice p1 l1 k1, .slice p2 l2 k2] 57)).alloc (.cells #[.bool bn, .slice p3 l3 k3, .slice p4 l4 k4] 57)).alloc (.cells #[.bool false, .slice none 0 0, .slice none 0 0] 57) = W
  intro b0 b1 b2 hBd
  have B0 := Lib.hid b0
  have B1 := Lib.hid b1
  have B2 := Lib.hid b2
  have s0 : W.drew.cell? ⟨w.heap.size, 0, none⟩ = some (.bool an) ∧ W.drew.cell? ⟨w.heap.size, 1, none⟩ = some (.slice p1 l1 k1) ∧ W.drew.cell? ⟨w.heap.size, 2, none⟩ = some (.slice p2 l2 k2) ∧ W.drew.cell? ⟨w.heap.size + 1, 0, none⟩ = some (.bool bn) ∧ W.drew.cell? ⟨w.heap.size + 1, 1, none⟩ = some (.slice p3 l3 k3) ∧ W.drew.cell? ⟨w.heap.size + 1, 2, none⟩ = some (.slice p4 l4 k4) :=
    ⟨b0.three.1, b0.three.2.1, b0.three.2.2, b1.three.1, b1.three.2.1, b1.three.2.2⟩
  have S0 := Lib.hid s0
  clear b0 b1 b2 s0
  go_region_held3 (fun w' => w'.cell? ⟨w.heap.size, 0, none⟩ = some (.bool an) ∧ w'.cell? ⟨w.heap.size, 1, none⟩ = some (.slice p1 l1 k1) ∧ w'.cell? ⟨w.heap.size, 2, none⟩ = some (.slice p2 l2 k2) ∧ w'.cell? ⟨w.heap.size + 1, 0, none⟩ = some (.bool bn) ∧ w'.cell? ⟨w.heap.size + 1, 1, none⟩ = some (.slice p3 l3 k3) ∧ w'.cell? ⟨w.heap.size + 1, 2, none⟩ = some (.slice p4 l4 k4))
    (first | exact S0.out | exact S3.out | exact S4.out | exact S5.out)
    (first
      | (go_at_call 56; ((with_reducible refine (MX.out _ hBd).mono ?_); rintro e w3 ⟨v3, rfl, hv3, hb3⟩; have hB3 := bel2' hBd hb3; have S3 := Lib.hid (Below.six hb3 S0.out)))
      | (go_at_call 56; ((with_reducible refine (MY.out _ hB3).mono ?_); rintro e w4 ⟨v4, rfl, hv4, hb4⟩; have hB4 := bel2' hB3 hb4; have S4 := Lib.hid (Below.six hb4 S3.out)))
      | (go_at_call 56; ((with_reducible refine (MZ.out _ hB4).mono ?_); rintro e w5 ⟨v5, rfl, hv5, hb5⟩; have hB5 := bel2' hB4 hb5; have S5 := Lib.hid (Below.six hb5 S4.out); have B2a := Lib.hid (((B2.out.keep hb3).keep hb4).keep hb5); have hX5 := Lib.hid ((hv3.keep hb4).keep hb5); have hY5 := Lib.hid (hv4.keep hb5); have hZ5 := Lib.hid hv5)))
  all_goals
    obtain ⟨g0, g1, g2, g3, g4, g5⟩ := S5.out
    clear hv3 hv4 hv5
    by_cases hs : an = bn
    · have hsb : (an == bn) = true := by rw [hs]; simp
      have e1 : sumS an X bn Y = (an, X + Y) := by unfold sumS; rw [if_pos hs]
      have E1 := Lib.hid e1
      have ls : Hid ((bitsN (X + Y)).length ≤ 40000) := Lib.hid (Nat.le_trans (len_add lx.out ly.out) (by omega))
      have AD := Lib.hid (fun w' (h : Below w5.heap.size w5 w') => radd_b v3 v4 X Y w' (hX5.out.keep h) (hY5.out.keep h) lx ly)
      have hdr := (Below.refl w5.heap.size w5).drew
      obtain ⟨j0, j1, j2, _, _, _⟩ := Below.six hdr S5.out
      clear hs e1
      go_wp2_with fail
      go_region_with (first
        | (go_at_call 57; ((with_reducible refine (AD.out _ hdr).mono ?_); rintro e w6 ⟨v6, rfl, hv6, hb6⟩; have hB6 := bel2' hdr hb6; obtain ⟨o0, o1, o2, _, _, _⟩ := Below.six hB6 S5.out))
        | (go_at_call 54; ((with_reducible refine (NM.out _ _ _ _ _ hv6 (hZ5.out.keep hB6) ls).mono ?_); rintro e w7 ⟨v7, rfl, hv7, hb7⟩; have hB7 := bel2' hB6 hb7; obtain ⟨x1, y1, z1, x2, y2, z2, rfl, f1, f2, f3, f4⟩ := hv7.shape; have B2b := Lib.hid (B2a.out.keep hB7); obtain ⟨m0, m1, m2⟩ := B2b.out.three; obtain ⟨t0, t1, t2⟩ := B2b.out.free3)))
      all_goals
        go_wp2_with fail
        refine bodyPost_ret (v := .agg #[.bool (Q.mk' an (X + Y) Z).neg, .slice x1 y1 z1, .slice x2 y2 z2]) (by simp [results, Try.results25, go_sem, m0, m1, m2]) rfl ?_
        have hz6 : w.heap.size + 1 + 1 + 1 ≤ w6.heap.size := Nat.le_trans (Nat.succ_le_of_lt B2a.out.1) hB6.size
        refine ⟨_, rfl, ?_⟩
        rw [E1.out]
        exact retR (bel2' hB5 hB7) (by omega) ⟨_, _, rfl, f1, f2, f3.mono hz6, f4.mono hz6⟩
    · have hsb : (an == bn) = false := by rw [beq_eq_false_iff_ne]; exact hs
      rcases Nat.lt_or_ge X Y with hxy | hxy
      · have e1 : sumS an X bn Y = (bn, Y - X) := by unfold sumS; rw [if_neg hs, if_neg (by omega)]
        have E1 := Lib.hid e1
        have ls : Hid ((bitsN (Y - X)).length ≤ 40000) := Lib.hid (Nat.le_trans (bits_len_mono (Nat.sub_le _ _)) (Nat.le_trans ly.out (by omega)))
        have hle := Lib.hid (Nat.le_of_lt hxy)
        have CM := Lib.hid (rcmp_b (c := -1) v3 v4 X Y w5 hX5.out hY5.out lx ly (Lib.hid (cmpN_lt hxy)))
        have SU := Lib.hid (fun w' (h : Below w5.heap.size w5 w') => rsub_b v4 v3 Y X w' (hY5.out.keep h) (hX5.out.keep h) ly hle)
        clear hs e1 hxy
        go_wp2_with (go_at_call 58; ((with_reducible refine CM.out.mono ?_); rintro e w6 ⟨rfl, hb6⟩))
        have hdr := hb6.drew
        obtain ⟨_, _, _, j3, j4, j5⟩ := Below.six hdr S5.out
        go_region_with (first
          | (go_at_call 59; ((with_reducible refine (SU.out _ hdr).mono ?_); rintro e w7 ⟨v7, rfl, hv7, hb7⟩; have hB7 := hdr.trans (hb7.mono hb6.size); obtain ⟨_, _, _, o3, o4, o5⟩ := Below.six hB7 S5.out))
          | (go_at_call 54; ((with_reducible refine (NM.out _ _ _ _ _ hv7 (hZ5.out.keep hB7) ls).mono ?_); rintro e w8 ⟨v8, rfl, hv8, hb8⟩; have hB8 := bel2' hB7 hb8; obtain ⟨x1, y1, z1, x2, y2, z2, rfl, f1, f2, f3, f4⟩ := hv8.shape; have B2b := Lib.hid (B2a.out.keep hB8); obtain ⟨m0, m1, m2⟩ := B2b.out.three; obtain ⟨t0, t1, t2⟩ := B2b.out.free3)))
        all_goals
          go_wp2_with fail
          refine bodyPost_ret (v := .agg #[.bool (Q.mk' bn (Y - X) Z).neg, .slice x1 y1 z1, .slice x2 y2 z2]) (by simp [results, Try.results25, go_sem, m0, m1, m2]) rfl ?_
          have hz7 : w.heap.size + 1 + 1 + 1 ≤ w7.heap.size := Nat.le_trans (Nat.succ_le_of_lt B2a.out.1) hB7.size
          refine ⟨_, rfl, ?_⟩
          rw [E1.out]
          exact retR (bel2' hB5 hB8) (by omega) ⟨_, _, rfl, f1, f2, f3.mono hz7, f4.mono hz7⟩
      · have e1 : sumS an X bn Y = (an, X - Y) := by unfold sumS; rw [if_neg hs, if_pos hxy]
        have E1 := Lib.hid e1
        have ls : Hid ((bitsN (X - Y)).length ≤ 40000) := Lib.hid (Nat.le_trans (bits_len_mono (Nat.sub_le _ _)) (Nat.le_trans lx.out (by omega)))
        have hle := Lib.hid hxy
        obtain ⟨cc, hcc⟩ : ∃ cc, cmpN X Y = cc := ⟨_, rfl⟩
        have hc0 : 0 ≤ cc := by rw [← hcc]; unfold cmpN; rw [if_neg (by omega)]; split <;> omega
        have CM := Lib.hid (rcmp_b (c := cc) v3 v4 X Y w5 hX5.out hY5.out lx ly (Lib.hid hcc))
        have SU := Lib.hid (fun w' (h : Below w5.heap.size w5 w') => rsub_b v3 v4 X Y w' (hX5.out.keep h) (hY5.out.keep h) lx hle)
        clear hs e1 hxy hcc
        go_wp2_with (go_at_call 58; ((with_reducible refine CM.out.mono ?_); rintro e w6 ⟨rfl, hb6⟩))
        have hdr := hb6.drew
        obtain ⟨j0, j1, j2, _, _, _⟩ := Below.six hdr S5.out
        go_region_with (first
          | (go_at_call 59; ((with_reducible refine (SU.out _ hdr).mono ?_); rintro e w7 ⟨v7, rfl, hv7, hb7⟩; have hB7 := hdr.trans (hb7.mono hb6.size); obtain ⟨o0, o1, o2, _, _, _⟩ := Below.six hB7 S5.out))
          | (go_at_call 54; ((with_reducible refine (NM.out _ _ _ _ _ hv7 (hZ5.out.keep hB7) ls).mono ?_); rintro e w8 ⟨v8, rfl, hv8, hb8⟩; have hB8 := bel2' hB7 hb8; obtain ⟨x1, y1, z1, x2, y2, z2, rfl, f1, f2, f3, f4⟩ := hv8.shape; have B2b := Lib.hid (B2a.out.keep hB8); obtain ⟨m0, m1, m2⟩ := B2b.out.three; obtain ⟨t0, t1, t2⟩ := B2b.out.free3)))
        all_goals
          go_wp2_with fail
          refine bodyPost_ret (v := .agg #[.bool (Q.mk' an (X - Y) Z).neg, .slice x1 y1 z1, .slice x2 y2 z2]) (by simp [results, Try.results25, go_sem, m0, m1, m2]) rfl ?_
          have hz7 : w.heap.size + 1 + 1 + 1 ≤ w7.heap.size := Nat.le_trans (Nat.succ_le_of_lt B2a.out.1) hB7.size
          refine ⟨_, rfl, ?_⟩
          rw [E1.out]
          exact retR (bel2' hB5 hB8) (by omega) ⟨_, _, rfl, f1, f2, f3.mono hz7, f4.mono hz7⟩

end Go.Proofs.Ytbnhgmikegdppaa

namespace Go.Proofs.Ytbnhgmikegdppaa
open Go.RowKit Go.Proofs.Kit Go.Proofs.Nums

/-- The sign of a difference, as the reference reads it. -/
def cmpD (d : Q) : Int := if d.n = 0 then 0 else if d.neg then -1 else 1

set_option maxRecDepth 100000 in
set_option maxHeartbeats 8000000 in
theorem rcmp_r {va vb : Value} {a b : Q} {w : World} (ha : RAt w va a) (hb : RAt w vb b) (sa : a.Sz 10000) (sb : b.Sz 10000) :
    Calls Try.prog 26 #[va, vb] w fun e w' => e = .returned (.int .i64 (cmpD (Q.addR a (Q.mk' (!b.neg) b.n b.d)))) ∧ Below w.heap.size w w' := by
  obtain ⟨p1, l1, k1, p2, l2, k2, rfl, hn, hd⟩ := ha.shape
  obtain ⟨p3, l3, k3, p4, l4, k4, rfl, hm, hc⟩ := hb.shape
  obtain ⟨o, ho⟩ : ∃ o, Q.mk' (!b.neg) b.n b.d = o := ⟨_, rfl⟩
  obtain ⟨⟨dneg, dn, dd⟩, hD⟩ : ∃ D, Q.addR a o = D := ⟨_, rfl⟩
  have so : o.Sz 10000 := by rw [← ho]; exact Q.mk'_sz sb.1 sb.2 (by omega)
  rw [ho, hD]
  have OP : Hid (∀ w', Below w.heap.size w w' → Calls Try.prog 60 #[.agg #[.bool b.neg, .slice p3 l3 k3, .slice p4 l4 k4]] w' fun e w'' => ∃ v', e = .returned v' ∧ RFr w'' v' o w'.heap.size ∧ Below w'.heap.size w' w'') := Lib.hid (fun w' h => by
    rw [← ho]; exact ropp_r (hb.keep h) ⟨Nat.le_trans sb.1 (by omega), Nat.le_trans sb.2 (by omega)⟩)
  have AD : Hid (∀ v w', Below w.heap.size w w' → RAt w' v o → Calls Try.prog 25 #[.agg #[.bool a.neg, .slice p1 l1 k1, .slice p2 l2 k2], v] w' fun e w'' => ∃ x z x2 z2, e = .returned (.agg #[.bool dneg, .slice x (bitsN dn).length z, .slice x2 (bitsN dd).length z2]) ∧ Below w'.heap.size w' w'') := Lib.hid (fun v w' h h' => by
    have := radd_r (ha.keep h) h' sa so
    rw [hD] at this
    refine this.mono ?_
    rintro e w'' ⟨v', rfl, ⟨vn, vd, rfl, g1, g2, _, _⟩, h3⟩
    obtain ⟨x, z, rfl⟩ := g1.shape
    obtain ⟨x2, z2, rfl⟩ := g2.shape
    exact ⟨_, _, _, _, rfl, h3⟩)
  obtain ⟨an, han⟩ : ∃ t, a.neg = t := ⟨_, rfl⟩
  obtain ⟨bn, hbn⟩ : ∃ t, b.neg = t := ⟨_, rfl⟩
  rw [hbn] at OP
  rw [han] at AD
  rw [han, hbn]
  have b0 := (Blk.new w #[.bool an, .slice p1 l1 k1, .slice p2 l2 k2] 57).alloc (.cells #[.bool bn, .slice p3 l3 k3, .slice p4 l4 k4] 57)
  have b1 := (Blk.new (w.alloc (.cells #[.bool an, .slice p1 l1 k1, .slice p2 l2 k2] 57)) #[.bool bn, .slice p3 l3 k3, .slice p4 l4 k4] 57)
  rw [World.size_alloc] at b1
  have hBd : Below w.heap.size w ((w.alloc (.cells #[.bool an, .slice p1 l1 k1, .slice p2 l2 k2] 57)).alloc (.cells #[.bool bn, .slice p3 l3 k3, .slice p4 l4 k4] 57)) := ((Below.refl _ _).alloc (Nat.le_refl _) _).alloc (by simp) _
  clear hn hd hm hc ha hb sa sb so ho hD han hbn
  obtain ⟨C, hC⟩ : ∃ C, cmpD ⟨dneg, dn, dd⟩ = C := ⟨_, rfl⟩
  rw [hC]
  obtain ⟨N, hN⟩ : ∃ N, (bitsN dn).length = N := ⟨_, rfl⟩
  have hcase : (N = 0 ∧ C = 0) ∨ ((((N : Nat) : Int) == 0) = false ∧ dneg = true ∧ C = -1) ∨ ((((N : Nat) : Int) == 0) = false ∧ dneg = false ∧ C = 1) := by
    subst hC hN
    unfold cmpD
    rcases Nat.eq_zero_or_pos dn with h0 | h0
    · subst h0; exact .inl ⟨rfl, rfl⟩
    · right
      have hz : (((bitsN dn).length : Int) == 0) = false := by rw [beq_eq_false_iff_ne]; have := bits_len_pos h0; omega
      simp only
      rw [if_neg (by omega)]
      cases dneg
      · exact .inr ⟨hz, rfl, rfl⟩
      · exact .inl ⟨hz, rfl, rfl⟩
  rw [hN] at AD
  clear hN hC
  go_enter Try.func26, Try.ntmps26
  go_wp2_with fail
  revert b0 b1 hBd
  generalize (w.alloc (.cells #[.bool an, .slice p1 l1 k1, .slice p2 l2 k2] 57)).alloc (.cells #[.bool bn, .slice p3 l3 k3, .slice p4 l4 k4] 57) = W
  intro b0 b1 hBd
  have B0 := Lib.hid b0.drew
  have B1 := Lib.hid b1.drew
  have B0A := Lib.hid (b0.alloc (.cells #[.bool false, .slice none 0 0, .slice none 0 0] 57)).drew
  have hBA := (hBd.alloc hBd.size (.cells #[.bool false, .slice none 0 0, .slice none 0 0] 57)).drew
  obtain ⟨ca0, ca1, ca2⟩ := (b0.alloc (.cells #[.bool false, .slice none 0 0, .slice none 0 0] 57)).drew.three
  obtain ⟨da0, da1, da2⟩ := (b1.alloc (.cells #[.bool false, .slice none 0 0, .slice none 0 0] 57)).drew.three
  have hBd := hBd.drew
  obtain ⟨c0, c1, c2⟩ := b0.drew.three
  obtain ⟨d0, d1, d2⟩ := b1.drew.three
  have NA := Lib.hid (Blk.new W #[.bool false, .slice none 0 0, .slice none 0 0] 57).drew
  clear b0 b1
  go_region_with (first
    | (go_at_call 60; ((with_reducible refine (OP.out _ (by first | exact hBd | exact hBA)).mono ?_); rintro e w3 ⟨v3, rfl, hv3, hb3⟩; have hB3 : Below w.heap.size w w3 := (by first | exact bel2' hBd hb3 | exact bel2' hBA hb3); have B03 : Hid (Blk w.heap.size #[.bool an, .slice p1 l1 k1, .slice p2 l2 k2] w3) := Lib.hid (by first | exact B0.out.keep hb3 | exact B0A.out.keep hb3); obtain ⟨e0, e1, e2⟩ := B03.out.three; obtain ⟨ea0, ea1, ea2⟩ := (B03.out.alloc (.cells #[.bool false, .slice none 0 0, .slice none 0 0] 57)).three; try have N3 := Lib.hid (NA.out.keep hb3)))
    | (go_at_call 25; ((with_reducible refine (AD.out _ _ (by first | exact hB3 | exact hB3.alloc hB3.size _) (by first | exact hv3.at | exact hv3.at.keep ((Below.refl _ _).alloc (Nat.le_refl _) _))).mono ?_); rintro e w4 ⟨x1, z1, x2, z2, rfl, hb4⟩; have hB4 : Below w.heap.size w w4 := (by first | exact bel2' hB3 hb4 | exact bel2' (hB3.alloc hB3.size _) hb4); try (first | have N4 := N3.out.keep hb4 | have N4 := (Blk.new w3 #[.bool false, .slice none 0 0, .slice none 0 0] 57).keep hb4); try obtain ⟨m0, m1, m2⟩ := N4.three; try obtain ⟨t0, t1, t2⟩ := N4.free3)))
  all_goals
    rcases hcase with ⟨h1, rfl⟩ | ⟨h1, rfl, rfl⟩ | ⟨h1, rfl, rfl⟩
    all_goals
      go_wp2_with fail
      go_ret
      refine ⟨rfl, ?_⟩
      first
        | exact below_set3 hB4 hB3.size _ _ _
        | exact below_set3 hB4 hBd.size _ _ _
        | exact hB4.alloc hB4.size _
        | exact below_set3 (hB4.alloc hB4.size _) hB4.size _ _ _

end Go.Proofs.Ytbnhgmikegdppaa

/- Whole numbers of the reference: From, Of, Add, Cmp. -/
namespace Go.Proofs.Nums

def wq (n : Nat) : Q := ⟨false, n, 1⟩
theorem wq_mk (n : Nat) : Q.mk' false n 1 = wq n := by
  by_cases h : n = 0
  · subst h; rfl
  · rw [Q.mk'_pos (by omega) (by omega), Nat.gcd_one_right, Nat.div_one, Nat.div_one]
    rfl
theorem whole_wq (x : Int) : wholeQ x = wq x.toNat := wq_mk _
theorem of_wq (n : Nat) : Q.of n = wq n := by
  unfold Q.of
  rw [decide_eq_false (by omega), Int.natAbs_natCast]
  exact wq_mk n
theorem norm_wq (n : Nat) : (wq n).norm = wq n := wq_mk n
theorem add_wq (a b : Nat) : Q.addR (wq a) (wq b) = wq (a + b) := by
  unfold Q.addR sumS wq
  simp only [Nat.mul_one, if_true]
  exact wq_mk (a + b)
theorem wq_sz {n : Nat} (h : n ≤ 1000000) : (wq n).Sz 10000 := by
  have h2 : (bitsN n).length ≤ 20 := bits_len_le n 20 (by omega)
  have h1 : (bitsN 1).length ≤ 20 := bits_len_le 1 20 (by omega)
  exact ⟨by show (bitsN n).length ≤ _; omega, by show (bitsN 1).length ≤ _; omega⟩

end Go.Proofs.Nums
namespace Go.Proofs.Ytbnhgmikegdppaa
open Go.RowKit Go.Proofs.Kit Go.Proofs.Nums

theorem cmp_wq (a b : Nat) : cmpD (Q.addR (wq a) (Q.mk' (!(wq b).neg) (wq b).n (wq b).d)) = cmpI a b := by
  unfold cmpI
  by_cases hb : b = 0
  · subst hb
    have e : Q.mk' (!(wq 0).neg) (wq 0).n (wq 0).d = wq 0 := rfl
    rw [e, add_wq]
    unfold cmpD wq
    simp only [Nat.add_zero]
    by_cases ha : a = 0
    · rw [if_pos ha, if_neg (by omega), if_neg (by omega)]
    · rw [if_neg ha, if_neg (by simp), if_neg (by omega), if_pos (by omega)]
  · have e : Q.mk' (!(wq b).neg) (wq b).n (wq b).d = ⟨true, b, 1⟩ := by
      show Q.mk' true b 1 = _
      rw [Q.mk'_pos (by omega) (by omega), Nat.gcd_one_right, Nat.div_one, Nat.div_one]
    rw [e]
    unfold Q.addR sumS wq
    simp only [Nat.mul_one, Bool.false_eq_true, if_false]
    by_cases h : b ≤ a
    · rw [if_pos h, wq_mk]
      unfold cmpD wq
      simp only
      by_cases h2 : a - b = 0
      · rw [if_pos h2, if_neg (by omega), if_neg (by omega)]
      · rw [if_neg h2, if_neg (by simp), if_neg (by omega), if_pos (by omega)]
    · rw [if_neg h]
      have : Q.mk' true (b - a) 1 = ⟨true, b - a, 1⟩ := by
        rw [Q.mk'_pos (by omega) (by omega), Nat.gcd_one_right, Nat.div_one, Nat.div_one]
      rw [this]
      unfold cmpD
      simp only
      rw [if_neg (by omega), if_pos trivial, if_pos (by omega)]
/-- The whole number n, as the reference holds it. -/
def WAt (w : World) (p : Option Addr) (l k : Nat) (p' : Option Addr) (l' k' n : Nat) : Prop := RAt w (.agg #[.bool false, .slice p l k, .slice p' l' k']) (wq n)
theorem WAt.keep {w w' : World} {p p' : Option Addr} {l k l' k' n : Nat} (h : WAt w p l k p' l' k' n) (hb : Below w.heap.size w w') : WAt w' p l k p' l' k' n := RAt.keep h hb
def GivesW (n : Nat) (w : World) (e : Ending) (w' : World) : Prop := ∃ p l k p' l' k', e = .returned (.agg #[.bool false, .slice p l k, .slice p' l' k']) ∧ WAt w' p l k p' l' k' n ∧ Below w.heap.size w w'
theorem wfrom_c {p p' : Option Addr} {l k l' k' : Nat} {x : Int} {w : World} (h : ratR w [.bool false, .slice p l k, .slice p' l' k'] (wholeQ x)) :
    Calls Try.prog 24 #[.agg #[.bool false, .slice p l k, .slice p' l' k']] w (GivesW x.toNat w) := by
  obtain ⟨_, _, _, _, _, _, e, hr, _⟩ := h
  simp only [List.cons.injEq, Value.slice.injEq, and_true, true_and] at e
  obtain ⟨⟨rfl, rfl, rfl⟩, rfl, rfl, rfl⟩ := e
  have ha : RatAt w (.agg #[.bool false, .slice p l k, .slice p' l' k']) (wholeQ x) 2 := by
    obtain ⟨vn, vd, e, h1, h2⟩ := hr
    exact ⟨vn, vd, e, h1.num, h2.num⟩
  refine (rfrom_r ha (by omega)).mono ?_
  rintro e w' ⟨v', rfl, g1, g2⟩
  rw [whole_wq, norm_wq] at g1
  obtain ⟨p1, l1, k1, p2, l2, k2, rfl, _⟩ := g1.shape
  exact ⟨p1, l1, k1, p2, l2, k2, rfl, g1.at, g2⟩
theorem wof_c (n : Nat) (hn : n ≤ 1000000) (w : World) : Calls Try.prog 27 #[.int .i64 n] w (GivesW n w) := by
  refine (rof_r (z := (n : Int)) (by omega) (by omega)).mono ?_
  rintro e w' ⟨v', rfl, g1, g2⟩
  rw [of_wq] at g1
  obtain ⟨p1, l1, k1, p2, l2, k2, rfl, _⟩ := g1.shape
  exact ⟨p1, l1, k1, p2, l2, k2, rfl, g1.at, g2⟩
theorem wadd_c {p1 p2 p3 p4 : Option Addr} {l1 k1 l2 k2 l3 k3 l4 k4 a b : Nat} {w : World} (ha : WAt w p1 l1 k1 p2 l2 k2 a) (hb : WAt w p3 l3 k3 p4 l4 k4 b) (h1 : a ≤ 1000000) (h2 : b ≤ 1000000) :
    Calls Try.prog 25 #[.agg #[.bool false, .slice p1 l1 k1, .slice p2 l2 k2], .agg #[.bool false, .slice p3 l3 k3, .slice p4 l4 k4]] w (GivesW (a + b) w) := by
  refine (radd_r ha hb (wq_sz h1) (wq_sz h2)).mono ?_
  rintro e w' ⟨v', rfl, g1, g2⟩
  rw [add_wq] at g1
  obtain ⟨p1, l1, k1, p2, l2, k2, rfl, _⟩ := g1.shape
  exact ⟨p1, l1, k1, p2, l2, k2, rfl, g1.at, g2⟩
theorem wcmp_c {p1 p2 p3 p4 : Option Addr} {l1 k1 l2 k2 l3 k3 l4 k4 a b : Nat} {w : World} (ha : WAt w p1 l1 k1 p2 l2 k2 a) (hb : WAt w p3 l3 k3 p4 l4 k4 b) (h1 : a ≤ 1000000) (h2 : b ≤ 1000000) :
    Calls Try.prog 26 #[.agg #[.bool false, .slice p1 l1 k1, .slice p2 l2 k2], .agg #[.bool false, .slice p3 l3 k3, .slice p4 l4 k4]] w fun e w' => e = .returned (.int .i64 (cmpI a b)) ∧ Below w.heap.size w w' := by
  have := rcmp_r ha hb (wq_sz h1) (wq_sz h2)
  rwa [cmp_wq] at this

end Go.Proofs.Ytbnhgmikegdppaa

/- The reference's comparison of rounds: two alike. -/
namespace Go.Proofs.Ytbnhgmikegdppaa
open Go.RowKit Go.Proofs.Kit Go.Proofs.Nums

theorem ratR_sl {w : World} {u1 u2 u3 : Value} {q : Q} (h : ratR w [u1, u2, u3] q) : ∃ p l k p' l' k', u1 = .bool false ∧ u2 = .slice p l k ∧ u3 = .slice p' l' k' := by
  obtain ⟨p, l, k, p', l', k', e, _⟩ := h
  simp only [List.cons.injEq, and_true] at e
  exact ⟨p, l, k, p', l', k', e.1, e.2.1, e.2.2⟩
theorem ratR_l {w : World} {v1 v2 : Value} {q : Q} (h : ratR w [.bool false, v1, v2] q) : RatL w (.agg #[.bool false, v1, v2]) false (limbs q.n) (limbs q.d) ∧ (limbs q.n).length ≤ 2 ∧ (limbs q.d).length ≤ 2 := by
  obtain ⟨p, l, k, p', l', k', e, hr, _⟩ := h
  simp only [List.cons.injEq, and_true, true_and] at e
  obtain ⟨rfl, rfl⟩ := e
  obtain ⟨vn, vd, e, h1, h2⟩ := hr
  simp only [Value.agg.injEq, Array.mk.injEq, List.cons.injEq, and_true] at e
  obtain ⟨_, rfl, rfl⟩ := e
  exact ⟨⟨_, _, rfl, h1.1, h2.1⟩, limbs_len_le _ _ h1.2, limbs_len_le _ _ h2.2⟩
theorem req_same {w : World} {v1 v2 v3 v4 : Value} {q : Q} (ha : ratR w [.bool false, v1, v2] q) (hb : ratR w [.bool false, v3, v4] q) :
    Calls Try.prog 65 #[.agg #[.bool false, v1, v2], .agg #[.bool false, v3, v4]] w fun e w' => e = .returned (.bool true) ∧ Below w.heap.size w w' := by
  obtain ⟨h1, l1, l2⟩ := ratR_l ha
  obtain ⟨h2, _, _⟩ := ratR_l hb
  have := req_r h1 h2 (by omega) (by omega) (by omega) (by omega)
  have e : eqR false (limbs q.n) (limbs q.d) false (limbs q.n) (limbs q.d) = true := by unfold eqR eqN; simp
  rwa [e] at this

theorem six_keep {w w' : World} {b1 o1 o2 o3 b2 o4 o5 o6 : Nat} {v1 v2 v3 v4 v5 v6 : Value} (hb : Below w.heap.size w w') (h : w.cell? ⟨b1, o1, none⟩ = some v1 ∧ w.cell? ⟨b1, o2, none⟩ = some v2 ∧ w.cell? ⟨b1, o3, none⟩ = some v3 ∧ w.cell? ⟨b2, o4, none⟩ = some v4 ∧ w.cell? ⟨b2, o5, none⟩ = some v5 ∧ w.cell? ⟨b2, o6, none⟩ = some v6) :
    w'.cell? ⟨b1, o1, none⟩ = some v1 ∧ w'.cell? ⟨b1, o2, none⟩ = some v2 ∧ w'.cell? ⟨b1, o3, none⟩ = some v3 ∧ w'.cell? ⟨b2, o4, none⟩ = some v4 ∧ w'.cell? ⟨b2, o5, none⟩ = some v5 ∧ w'.cell? ⟨b2, o6, none⟩ = some v6 :=
  ⟨cell_keep hb h.1, cell_keep hb h.2.1, cell_keep hb h.2.2.1, cell_keep hb h.2.2.2.1, cell_keep hb h.2.2.2.2.1, cell_keep hb h.2.2.2.2.2⟩

set_option maxRecDepth 100000 in
set_option maxHeartbeats 4000000 in
theorem samenums_c {va vb : Value} {l : List Q} {w : World} (ha : RatsAt w va l) (hb : RatsAt w vb l) :
    Calls Try.prog 64 #[va, vb] w fun e w' => e = .returned (.bool true) ∧ Below w.heap.size w w' := by
  have HA := Lib.hid ha
  have HB := Lib.hid hb
  have hlm := SliceOf.len ha
  obtain ⟨p, c, rfl⟩ := ha.shp
  obtain ⟨p', c', rfl⟩ := hb.shp
  obtain ⟨n, hn⟩ : ∃ n, l.length = n := ⟨_, rfl⟩
  have HN := Lib.hid hn
  rw [hn] at HA HB hlm ⊢
  clear ha hb hn
  have q0 : ((n : Int) != (n : Int)) = false := by simp
  go_enter Try.func64, Try.ntmps64
  go_wp2_with fail
  go_loopw [5] (fun iv wr => ∃ k : Nat, k ≤ n ∧ iv = .int .i64 k ∧ Below w.heap.size w wr) (fun iv _ => n - (intOf iv).toNat)
  case atStart => exact ⟨0, by omega, rfl, Below.refl _ _⟩
  case round =>
    obtain ⟨k, hk, rfl, hbel⟩ := hrel
    by_cases hlt : k < n
    · have hltz : (k : Int) < (n : Int) := by omega
      obtain ⟨q, hq⟩ : ∃ q, l.getD k (Q.of 0) = q := ⟨_, rfl⟩
      obtain ⟨b1, o1, p1, l1, k1, p2, l2, k2, e1, h1, h2, r1, r2, ca, cb, cc⟩ := (HA.out.keep hbel).cellsAt (by rw [HN.out]; exact hlt) hq
      obtain ⟨b2, o2, p3, l3, k3, p4, l4, k4, e2, h3, h4, r3, r4, cd, ce, cf⟩ := (HB.out.keep hbel).cellsAt (by rw [HN.out]; exact hlt) hq
      subst e1; subst e2
      have S0 : Hid (wr.drew.cell? ⟨b1, o1 + k * 3, none⟩ = some (.bool false) ∧ wr.drew.cell? ⟨b1, o1 + k * 3 + 1, none⟩ = some (.slice p1 l1 k1) ∧ wr.drew.cell? ⟨b1, o1 + k * 3 + 2, none⟩ = some (.slice p2 l2 k2) ∧ wr.drew.cell? ⟨b2, o2 + k * 3, none⟩ = some (.bool false) ∧ wr.drew.cell? ⟨b2, o2 + k * 3 + 1, none⟩ = some (.slice p3 l3 k3) ∧ wr.drew.cell? ⟨b2, o2 + k * 3 + 2, none⟩ = some (.slice p4 l4 k4)) := Lib.hid ⟨ca, cb, cc, cd, ce, cf⟩
      have hbd : Below wr.heap.size wr wr.drew := (Below.refl _ _).drew
      have EQ : Hid (Calls Try.prog 65 #[.agg #[.bool false, .slice p1 l1 k1, .slice p2 l2 k2], .agg #[.bool false, .slice p3 l3 k3, .slice p4 l4 k4]] wr.drew fun e w' => e = .returned (.bool true) ∧ Below wr.drew.heap.size wr.drew w') := Lib.hid (req_same (q := q) (ratR.keep ⟨_, _, _, _, _, _, rfl, r1, r2⟩ hbd) (ratR.keep ⟨_, _, _, _, _, _, rfl, r3, r4⟩ hbd))
      clear ca cb cc cd ce cf hq r1 r2 r3 r4
      go_wp2_with fail
      go_region_held3 (fun w' => w'.cell? ⟨b1, o1 + k * 3, none⟩ = some (.bool false) ∧ w'.cell? ⟨b1, o1 + k * 3 + 1, none⟩ = some (.slice p1 l1 k1) ∧ w'.cell? ⟨b1, o1 + k * 3 + 2, none⟩ = some (.slice p2 l2 k2) ∧ w'.cell? ⟨b2, o2 + k * 3, none⟩ = some (.bool false) ∧ w'.cell? ⟨b2, o2 + k * 3 + 1, none⟩ = some (.slice p3 l3 k3) ∧ w'.cell? ⟨b2, o2 + k * 3 + 2, none⟩ = some (.slice p4 l4 k4))
        (first | exact S1.out | exact S0.out)
        (first
          | (go_at_call 65; ((with_reducible refine EQ.out.mono ?_); rintro _ w1 ⟨rfl, hb1⟩; have hB1 := bel2' hbd hb1; have S1 := Lib.hid (six_keep hb1 S0.out))))
      all_goals
        go_wp2_with fail
        go_roundw
        case rel => exact ⟨k + 1, by omega, by go_num, bel2' hbel hB1⟩
        case measure => simp [intOf] <;> omega
    · obtain rfl : n = k := by omega
      have hltz : ¬ (n : Int) < (n : Int) := by omega
      go_wp2_with fail
      go_ret
      exact ⟨rfl, hbel⟩

/-- A round as it lies in cells. -/
structure RndV (w : World) (a b q1 q2 e1 e2 s1 s2 l1 l2 l3 : Value) (r : Rnd) : Prop where
  h : RndH w a b q1 q2 e1 e2 s1 s2 r
  el : IntsAt w l1 r.el
  ex : IntsAt w l2 r.ex
  ti : IntsAt w l3 r.ti
theorem RndV.keep {w w' : World} {a b q1 q2 e1 e2 s1 s2 l1 l2 l3 : Value} {r : Rnd} (h : RndV w a b q1 q2 e1 e2 s1 s2 l1 l2 l3 r) (hb : Below w.heap.size w w') : RndV w' a b q1 q2 e1 e2 s1 s2 l1 l2 l3 r :=
  ⟨⟨h.h.votes.keep hb, h.h.keep.keep hb, h.h.quota.keep hb, h.h.exh.keep hb, h.h.sur.keep hb⟩, h.el.keep hb, h.ex.keep hb, h.ti.keep hb⟩

set_option maxRecDepth 100000 in
set_option maxHeartbeats 8000000 in
theorem sameround_c {a b q1 q2 e1 e2 s1 s2 l1 l2 l3 a' b' q1' q2' e1' e2' s1' s2' l1' l2' l3' : Value} {r : Rnd} {w : World} (h1 : RndV w a b q1 q2 e1 e2 s1 s2 l1 l2 l3 r) (h2 : RndV w a' b' q1' q2' e1' e2' s1' s2' l1' l2' l3' r) :
    Calls Try.prog 34 #[.agg #[a, b, .bool false, q1, q2, .bool false, e1, e2, .bool false, s1, s2, l1, l2, l3], .agg #[a', b', .bool false, q1', q2', .bool false, e1', e2', .bool false, s1', s2', l1', l2', l3']] w fun e w' => e = .returned (.bool true) ∧ Below w.heap.size w w' := by
  have K1 := (Blk.new w #[a, b, .bool false, q1, q2, .bool false, e1, e2, .bool false, s1, s2, l1, l2, l3] 54).alloc (.cells #[a', b', .bool false, q1', q2', .bool false, e1', e2', .bool false, s1', s2', l1', l2', l3'] 54)
  have K2 := Blk.new (w.alloc (.cells #[a, b, .bool false, q1, q2, .bool false, e1, e2, .bool false, s1, s2, l1, l2, l3] 54)) #[a', b', .bool false, q1', q2', .bool false, e1', e2', .bool false, s1', s2', l1', l2', l3'] 54
  have hbW := below_al (below_al (Below.refl w.heap.size w) (.cells #[a, b, .bool false, q1, q2, .bool false, e1, e2, .bool false, s1, s2, l1, l2, l3] 54)) (.cells #[a', b', .bool false, q1', q2', .bool false, e1', e2', .bool false, s1', s2', l1', l2', l3'] 54)
  rw [show (w.alloc (.cells #[a, b, .bool false, q1, q2, .bool false, e1, e2, .bool false, s1, s2, l1, l2, l3] 54)).heap.size = w.heap.size + 1 by simp] at K2
  obtain ⟨W, hW⟩ : ∃ W, (w.alloc (.cells #[a, b, .bool false, q1, q2, .bool false, e1, e2, .bool false, s1, s2, l1, l2, l3] 54)).alloc (.cells #[a', b', .bool false, q1', q2', .bool false, e1', e2', .bool false, s1', s2', l1', l2', l3'] 54) = W := ⟨_, rfl⟩
  rw [hW] at K1 K2 hbW
  have H1 := h1.keep hbW
  have H2 := h2.keep hbW
  have SV := Lib.hid (fun wq (h : Below W.heap.size W wq) => samenums_c (H1.h.votes.keep h) (H2.h.votes.keep h))
  have SK := Lib.hid (fun wq (h : Below W.heap.size W wq) => samenums_c (H1.h.keep.keep h) (H2.h.keep.keep h))
  have EQ := Lib.hid (fun wq (h : Below W.heap.size W wq) => req_same (H1.h.quota.keep h) (H2.h.quota.keep h))
  have EX := Lib.hid (fun wq (h : Below W.heap.size W wq) => req_same (H1.h.exh.keep h) (H2.h.exh.keep h))
  have ES := Lib.hid (fun wq (h : Below W.heap.size W wq) => req_same (H1.h.sur.keep h) (H2.h.sur.keep h))
  have IQ : ∀ {wq : World} {va vb : Value} {l : List Int}, IntsAt wq va l → IntsAt wq vb l → Calls Try.prog 13 #[va, vb] wq fun e w' => e = .returned (.bool true) ∧ Below wq.heap.size wq w' := fun h1 h2 => by
    have := eq_c h1 h2
    rwa [decide_eq_true rfl] at this
  have IE := Lib.hid (fun wq (h : Below W.heap.size W wq) => IQ (H1.el.keep h) (H2.el.keep h))
  have IX := Lib.hid (fun wq (h : Below W.heap.size W wq) => IQ (H1.ex.keep h) (H2.ex.keep h))
  have IT := Lib.hid (fun wq (h : Below W.heap.size W wq) => IQ (H1.ti.keep h) (H2.ti.keep h))
  have x0 : W.cell? ⟨w.heap.size, 0, none⟩ = some a := K1.2.1 0
  have y0 : W.cell? ⟨w.heap.size + 1, 0, none⟩ = some a' := K2.2.1 0
  have K1 := Lib.hid K1
  have K2 := Lib.hid K2
  have HBW := Lib.hid hbW
  clear h1 h2 H1 H2 IQ hbW
  go_enter Try.func34, Try.ntmps34
  go_wp2_with (first
    | (go_at_call 64; ((with_reducible refine (SV.out _ (Below.refl _ _)).mono ?_); rintro _ w1 ⟨rfl, hb1⟩; have B1 := hb1; have x1 : w1.cell? ⟨w.heap.size, 1, none⟩ = some (b) := (K1.out.keep B1).2.1 1; have y1 : w1.cell? ⟨w.heap.size + 1, 1, none⟩ = some (b') := (K2.out.keep B1).2.1 1))
    | (go_at_call 64; ((with_reducible refine (SK.out _ B1).mono ?_); rintro _ w2 ⟨rfl, hb2⟩; have B2 := bel2' B1 hb2; have x2 : w2.cell? ⟨w.heap.size, 2, none⟩ = some (.bool false) := (K1.out.keep B2).2.1 2; have y2 : w2.cell? ⟨w.heap.size + 1, 2, none⟩ = some (.bool false) := (K2.out.keep B2).2.1 2; have x3 : w2.cell? ⟨w.heap.size, 3, none⟩ = some (q1) := (K1.out.keep B2).2.1 3; have y3 : w2.cell? ⟨w.heap.size + 1, 3, none⟩ = some (q1') := (K2.out.keep B2).2.1 3; have x4 : w2.cell? ⟨w.heap.size, 4, none⟩ = some (q2) := (K1.out.keep B2).2.1 4; have y4 : w2.cell? ⟨w.heap.size + 1, 4, none⟩ = some (q2') := (K2.out.keep B2).2.1 4))
    | (go_at_call 65; ((with_reducible refine (EQ.out _ B2).mono ?_); rintro _ w3 ⟨rfl, hb3⟩; have B3 := bel2' B2 hb3; have x5 : w3.cell? ⟨w.heap.size, 5, none⟩ = some (.bool false) := (K1.out.keep B3).2.1 5; have y5 : w3.cell? ⟨w.heap.size + 1, 5, none⟩ = some (.bool false) := (K2.out.keep B3).2.1 5; have x6 : w3.cell? ⟨w.heap.size, 6, none⟩ = some (e1) := (K1.out.keep B3).2.1 6; have y6 : w3.cell? ⟨w.heap.size + 1, 6, none⟩ = some (e1') := (K2.out.keep B3).2.1 6; have x7 : w3.cell? ⟨w.heap.size, 7, none⟩ = some (e2) := (K1.out.keep B3).2.1 7; have y7 : w3.cell? ⟨w.heap.size + 1, 7, none⟩ = some (e2') := (K2.out.keep B3).2.1 7))
    | (go_at_call 65; ((with_reducible refine (EX.out _ B3).mono ?_); rintro _ w4 ⟨rfl, hb4⟩; have B4 := bel2' B3 hb4; have x8 : w4.cell? ⟨w.heap.size, 8, none⟩ = some (.bool false) := (K1.out.keep B4).2.1 8; have y8 : w4.cell? ⟨w.heap.size + 1, 8, none⟩ = some (.bool false) := (K2.out.keep B4).2.1 8; have x9 : w4.cell? ⟨w.heap.size, 9, none⟩ = some (s1) := (K1.out.keep B4).2.1 9; have y9 : w4.cell? ⟨w.heap.size + 1, 9, none⟩ = some (s1') := (K2.out.keep B4).2.1 9; have x10 : w4.cell? ⟨w.heap.size, 10, none⟩ = some (s2) := (K1.out.keep B4).2.1 10; have y10 : w4.cell? ⟨w.heap.size + 1, 10, none⟩ = some (s2') := (K2.out.keep B4).2.1 10))
    | (go_at_call 65; ((with_reducible refine (ES.out _ B4).mono ?_); rintro _ w5 ⟨rfl, hb5⟩; have B5 := bel2' B4 hb5; have x11 : w5.cell? ⟨w.heap.size, 11, none⟩ = some (l1) := (K1.out.keep B5).2.1 11; have y11 : w5.cell? ⟨w.heap.size + 1, 11, none⟩ = some (l1') := (K2.out.keep B5).2.1 11))
    | (go_at_call 13; ((with_reducible refine (IE.out _ B5).mono ?_); rintro _ w6 ⟨rfl, hb6⟩; have B6 := bel2' B5 hb6; have x12 : w6.cell? ⟨w.heap.size, 12, none⟩ = some (l2) := (K1.out.keep B6).2.1 12; have y12 : w6.cell? ⟨w.heap.size + 1, 12, none⟩ = some (l2') := (K2.out.keep B6).2.1 12))
    | (go_at_call 13; ((with_reducible refine (IX.out _ B6).mono ?_); rintro _ w7 ⟨rfl, hb7⟩; have B7 := bel2' B6 hb7; have x13 : w7.cell? ⟨w.heap.size, 13, none⟩ = some (l3) := (K1.out.keep B7).2.1 13; have y13 : w7.cell? ⟨w.heap.size + 1, 13, none⟩ = some (l3') := (K2.out.keep B7).2.1 13))
    | (go_at_call 13; ((with_reducible refine (IT.out _ B7).mono ?_); rintro _ w8 ⟨rfl, hb8⟩; have B8 := bel2' B7 hb8)))
  go_ret
  exact ⟨rfl, bel2' HBW.out B8⟩

end Go.Proofs.Ytbnhgmikegdppaa

/- IrvBlank: the plain law. -/
namespace Go.Proofs.Nums

theorem first_empty (R : Int → Bool) : firstC R [] = -1 := rfl
theorem blank_wt {gs : List Grp} {K : Int} (R : Int → Bool) {c : Int} (hc : c ≠ -1) : wt R (addS gs [] K) c = wt R gs c := by
  unfold wt
  rw [sumF_add, if_neg, Int.add_zero]
  rw [first_empty, decide_eq_true_iff]
  exact fun e => hc e.symm
theorem blank_rest {gs : List Grp} {K : Int} (rem : List Bool) : restS (addS gs [] K) rem = restS gs rem + K := by
  unfold restS wt
  rw [sumF_add, if_pos]
  rw [first_empty]
  rfl
theorem blank_votes {gs : List Grp} {K : Int} (rem : List Bool) : votesS (addS gs [] K) rem = votesS gs rem := by
  unfold votesS
  exact List.map_congr_left fun i _ => blank_wt _ (by omega)
theorem blank_low {gs : List Grp} {K : Int} (rem : List Bool) : lowS (addS gs [] K) rem = lowS gs rem := by
  refine sorted_ext (low_sorted _ _) (low_sorted _ _) fun x => ?_
  rw [mem_low, mem_low]
  unfold Low
  have hr : ∀ d, remB rem d = true → wt (remB rem) (addS gs [] K) d = wt (remB rem) gs d := fun d hd => blank_wt _ (by have := remB_lt hd; omega)
  constructor
  · rintro ⟨h1, h2⟩
    exact ⟨h1, fun d hd => by have := h2 d hd; rwa [hr x h1, hr d hd] at this⟩
  · rintro ⟨h1, h2⟩
    exact ⟨h1, fun d hd => by rw [hr x h1, hr d hd]; exact h2 d hd⟩
theorem find_congr {p q : Int → Bool} : ∀ {l : List Int}, (∀ x ∈ l, p x = q x) → l.find? p = l.find? q
  | [], _ => rfl
  | x :: l, h => by
    have hx := h x (List.mem_cons_self ..)
    have ih := find_congr (l := l) fun y hy => h y (List.mem_cons_of_mem _ hy)
    cases e : q x with
    | true => rw [List.find?_cons_of_pos (by rw [hx, e]), List.find?_cons_of_pos e]
    | false => rw [List.find?_cons_of_neg (by rw [hx, e]; simp), List.find?_cons_of_neg (by rw [e]; simp), ih]
def moreR (K : Int) (r : Rnd) : Rnd := ⟨r.votes, r.keep, r.quota, r.exh + K, r.el, r.ex, r.ti⟩
theorem blank_count {whole : Bool} {brk : List (List Int) → List Int → Int} {gs : List Grp} {K : Int} : ∀ (m : Nat) (rem : List Bool) (ear : List (List Int)), countS whole brk (addS gs [] K) m rem ear = (countS whole brk gs m rem ear).map (moreR K)
  | 0, _, _ => rfl
  | m + 1, rem, ear => by
    have hq : quotaS (addS gs [] K) rem = quotaS gs rem := by unfold quotaS; rw [blank_votes]
    have hw : (aliveS rem).find? (wins whole (addS gs [] K) rem) = (aliveS rem).find? (wins whole gs rem) := find_congr fun x hx => by
      unfold wins
      rw [hq, blank_wt _ (by have := remB_lt (mem_alive.1 hx); omega)]
    have hx : exclS brk (addS gs [] K) rem ear = exclS brk gs rem ear := by unfold exclS; rw [blank_low]
    have ht : tiedW (addS gs [] K) rem = tiedW gs rem := by unfold tiedW; rw [blank_low]
    have hm : ∀ a b c, mkR (addS gs [] K) rem a b c = moreR K (mkR gs rem a b c) := fun a b c => by
      unfold mkR moreR
      rw [blank_votes, hq, blank_rest]
    unfold countS
    rw [hw]
    cases (aliveS rem).find? (wins whole gs rem) with
    | some w =>
      simp only [List.map_cons, List.map_nil]
      rw [hm]
    | none =>
      simp only [List.map_cons]
      rw [hm, hx, ht, blank_votes, blank_count m]

theorem count_exh {whole : Bool} {brk : List (List Int) → List Int → Int} {gs : List Grp} {n : Int} (hp : PileP n gs) : ∀ {m : Nat} {rem : List Bool} {ear : List (List Int)}, ∀ r ∈ countS whole brk gs m rem ear, 0 ≤ r.exh ∧ r.exh ≤ 100000
  | 0, _, _, r, hr => by simp [countS] at hr
  | m + 1, rem, ear, r, hr => by
    unfold countS at hr
    split at hr
    · rw [List.mem_singleton] at hr
      subst hr
      exact rest_rng hp
    · rcases List.mem_cons.1 hr with rfl | hr
      · exact rest_rng hp
      · exact count_exh hp r hr

end Go.Proofs.Nums

/- IrvBlank: the walk. -/
namespace Go.Proofs.Ytbnhgmikegdppaa
open Go.RowKit Go.Proofs.Kit Go.Proofs.Nums

theorem lots_perm (n : Nat) (code : Int) : Lots n (permS n code) := ⟨perm_bal n code, perm_len n code⟩
theorem rndR_keep {w w' : World} {c : List Value} {r : Rnd} (h : rndR w c r) (hb : Below w.heap.size w w') : rndR w' c r := by
  obtain ⟨a, b, q1, q2, e1, e2, s1, s2, l1, l2, l3, e, g, i1, i2, i3⟩ := h
  exact ⟨a, b, q1, q2, e1, e2, s1, s2, l1, l2, l3, e, ⟨g.votes.keep hb, g.keep.keep hb, g.quota.keep hb, g.exh.keep hb, g.sur.keep hb⟩, i1.keep hb, i2.keep hb, i3.keep hb⟩
def RndsAt (w : World) (v : Value) (R : List Rnd) : Prop := SliceOf rndR 14 w v R
theorem RndsAt.keep {w w' : World} {v : Value} {R : List Rnd} (h : RndsAt w v R) (hb : Below w.heap.size w w') : RndsAt w' v R := SliceOf.keep h hb fun _ _ g => rndR_keep g hb
def RndC (w : World) (g o : Nat) (a b q1 q2 e1 e2 s1 s2 l1 l2 l3 : Value) : Prop := w.cell? ⟨g, o, none⟩ = some (a) ∧ w.cell? ⟨g, o + 1, none⟩ = some (b) ∧ w.cell? ⟨g, o + 2, none⟩ = some (.bool false) ∧ w.cell? ⟨g, o + 3, none⟩ = some (q1) ∧ w.cell? ⟨g, o + 4, none⟩ = some (q2) ∧ w.cell? ⟨g, o + 5, none⟩ = some (.bool false) ∧ w.cell? ⟨g, o + 6, none⟩ = some (e1) ∧ w.cell? ⟨g, o + 7, none⟩ = some (e2) ∧ w.cell? ⟨g, o + 8, none⟩ = some (.bool false) ∧ w.cell? ⟨g, o + 9, none⟩ = some (s1) ∧ w.cell? ⟨g, o + 10, none⟩ = some (s2) ∧ w.cell? ⟨g, o + 11, none⟩ = some (l1) ∧ w.cell? ⟨g, o + 12, none⟩ = some (l2) ∧ w.cell? ⟨g, o + 13, none⟩ = some (l3)
theorem rnd_at {w : World} {p : Option Addr} {n c k : Nat} {R : List Rnd} {r : Rnd} (h : RndsAt w (.slice p n c) R) (hr : R[k]? = some r) :
    ∃ g off a b q1 q2 e1 e2 s1 s2 l1 l2 l3, p = some ⟨g, off, none⟩ ∧ n = R.length ∧ R.length ≤ c ∧ c ≤ 9223372036854775807 ∧ RndV w a b q1 q2 e1 e2 s1 s2 l1 l2 l3 r ∧ RndC w g (off + k * 14) a b q1 q2 e1 e2 s1 s2 l1 l2 l3 := by
  have hk := (List.getElem?_eq_some_iff.1 hr).1
  obtain ⟨g, off, cap, cs, e, h1, h2, h3, h4, h5⟩ := SliceOf.at_ (by omega) h hk
  simp only [Value.slice.injEq] at e
  obtain ⟨rfl, rfl, rfl⟩ := e
  have e2 : R[k] = r := by rw [List.getElem?_eq_getElem hk] at hr; simpa using hr
  rw [e2] at h4
  obtain ⟨a, b, q1, q2, e1, e2, s1, s2, l1, l2, l3, rfl, g1, g2, g3, g4⟩ := h4
  have hc : ∀ j u, (rndA a b q1 q2 e1 e2 s1 s2 l1 l2 l3).toList[j]? = some u → w.cell? ⟨g, off + k * 14 + j, none⟩ = some u := fun j u hu => by rw [Nat.add_assoc]; exact h5 j u hu
  exact ⟨g, off, a, b, q1, q2, e1, e2, s1, s2, l1, l2, l3, rfl, rfl, h1, h2, ⟨g1, g2, g3, g4⟩, hc 0 _ rfl, hc 1 _ rfl, hc 2 _ rfl, hc 3 _ rfl, hc 4 _ rfl, hc 5 _ rfl, hc 6 _ rfl, hc 7 _ rfl, hc 8 _ rfl, hc 9 _ rfl, hc 10 _ rfl, hc 11 _ rfl, hc 12 _ rfl, hc 13 _ rfl⟩
theorem RndC.keep {w w' : World} {g o : Nat} {a b q1 q2 e1 e2 s1 s2 l1 l2 l3 : Value} (h : RndC w g o a b q1 q2 e1 e2 s1 s2 l1 l2 l3) (hb : Below w.heap.size w w') : RndC w' g o a b q1 q2 e1 e2 s1 s2 l1 l2 l3 := by
  obtain ⟨c0, c1, c2, c3, c4, c5, c6, c7, c8, c9, c10, c11, c12, c13⟩ := h
  exact ⟨cell_keep hb c0, cell_keep hb c1, cell_keep hb c2, cell_keep hb c3, cell_keep hb c4, cell_keep hb c5, cell_keep hb c6, cell_keep hb c7, cell_keep hb c8, cell_keep hb c9, cell_keep hb c10, cell_keep hb c11, cell_keep hb c12, cell_keep hb c13⟩
theorem blk_pair (w : World) (A B : Array Value) (T U : TypeId) : Blk w.heap.size A ((w.alloc (.cells A T)).alloc (.cells B U)).drew ∧ Blk (w.heap.size + 1) B ((w.alloc (.cells A T)).alloc (.cells B U)).drew ∧ Below w.heap.size w ((w.alloc (.cells A T)).alloc (.cells B U)).drew := by
  refine ⟨((Blk.new w A T).alloc _).drew, ?_, (below_al (below_al (Below.refl _ _) _) _).drew⟩
  have h := Blk.new (w.alloc (.cells A T)) B U
  rw [show (w.alloc (.cells A T)).heap.size = w.heap.size + 1 by simp] at h
  exact h.drew

theorem blk_off {b c : Nat} {cs : Array Value} {w : World} (h : Blk c cs w) (hne : c ≠ b) (j : Nat) (v : Value) : Blk c cs (w.setCell ⟨b, j, none⟩ v) :=
  h.off (Below.heap_setCell _ _ _ _ (by exact hne)) (by simp)
theorem rndv_sh {w : World} {a b q1 q2 e1 e2 s1 s2 l1 l2 l3 : Value} {r : Rnd} (h : RndV w a b q1 q2 e1 e2 s1 s2 l1 l2 l3 r) : ∃ pa na ca pb nb cb pq1 nq1 cq1 pq2 nq2 cq2 pe1 ne1 ce1 pe2 ne2 ce2 ps1 ns1 cs1 ps2 ns2 cs2 pl1 nl1 cl1 pl2 nl2 cl2 pl3 nl3 cl3, a = .slice pa na ca ∧ b = .slice pb nb cb ∧ q1 = .slice pq1 nq1 cq1 ∧ q2 = .slice pq2 nq2 cq2 ∧ e1 = .slice pe1 ne1 ce1 ∧ e2 = .slice pe2 ne2 ce2 ∧ s1 = .slice ps1 ns1 cs1 ∧ s2 = .slice ps2 ns2 cs2 ∧ l1 = .slice pl1 nl1 cl1 ∧ l2 = .slice pl2 nl2 cl2 ∧ l3 = .slice pl3 nl3 cl3 := by
  obtain ⟨pa, ca, ea, _, _⟩ := h.h.votes.shape
  obtain ⟨pb, cb, eb, _, _⟩ := h.h.keep.shape
  obtain ⟨p1, m1, c1, p2, m2, c2, e1, _⟩ := h.h.quota
  obtain ⟨p3, m3, c3, p4, m4, c4, e2, _⟩ := h.h.exh
  obtain ⟨p5, m5, c5, p6, m6, c6, e3, _⟩ := h.h.sur
  obtain ⟨p7, c7, e4⟩ := h.el.shape
  obtain ⟨p8, c8, e5⟩ := h.ex.shape
  obtain ⟨p9, c9, e6⟩ := h.ti.shape
  simp only [List.cons.injEq, and_true, true_and] at e1 e2 e3
  exact ⟨_, _, _, _, _, _, _, _, _, _, _, _, _, _, _, _, _, _, _, _, _, _, _, _, _, _, _, _, _, _, _, _, _, ea, eb, e1.1, e1.2, e2.1, e2.2, e3.1, e3.2, e4, e5, e6⟩
theorem blk14_off {b c : Nat} {w : World} {cs : Array Value} (h : Blk c cs w) (hne : c ≠ b) (y0 y1 y2 y3 y4 y5 y6 y7 y8 y9 y10 y11 y12 y13 : Value) : Blk c cs ((((((((((((((w.setCell ⟨b, 0, none⟩ y0).setCell ⟨b, 1, none⟩ y1).setCell ⟨b, 2, none⟩ y2).setCell ⟨b, 3, none⟩ y3).setCell ⟨b, 4, none⟩ y4).setCell ⟨b, 5, none⟩ y5).setCell ⟨b, 6, none⟩ y6).setCell ⟨b, 7, none⟩ y7).setCell ⟨b, 8, none⟩ y8).setCell ⟨b, 9, none⟩ y9).setCell ⟨b, 10, none⟩ y10).setCell ⟨b, 11, none⟩ y11).setCell ⟨b, 12, none⟩ y12).setCell ⟨b, 13, none⟩ y13) :=
  (blk_off (blk_off (blk_off (blk_off (blk_off (blk_off (blk_off (blk_off (blk_off (blk_off (blk_off (blk_off (blk_off (blk_off h hne 0 y0) hne 1 y1) hne 2 y2) hne 3 y3) hne 4 y4) hne 5 y5) hne 6 y6) hne 7 y7) hne 8 y8) hne 9 y9) hne 10 y10) hne 11 y11) hne 12 y12) hne 13 y13)
theorem below3 {n b : Nat} {w0 w : World} (h : Below n w0 w) (hn : n ≤ b) (x y z : Value) : Below n w0 (((w.setCell ⟨b, 5, none⟩ x).setCell ⟨b, 6, none⟩ y).setCell ⟨b, 7, none⟩ z) :=
  Below.setCell (p := ⟨b, 7, none⟩) (Below.setCell (p := ⟨b, 6, none⟩) (Below.setCell (p := ⟨b, 5, none⟩) h hn x) hn y) hn z
theorem blk6 {b : Nat} {w : World} {x0 x1 x2 x3 x4 x5 : Value} (h : Blk b #[x0, x1, x2, x3, x4, x5] w) (y0 y1 y2 y3 y4 y5 : Value) :
    Blk b #[y0, y1, y2, y3, y4, y5] ((((((w.setCell ⟨b, 0, none⟩ y0).setCell ⟨b, 1, none⟩ y1).setCell ⟨b, 2, none⟩ y2).setCell ⟨b, 3, none⟩ y3).setCell ⟨b, 4, none⟩ y4).setCell ⟨b, 5, none⟩ y5) :=
  blk_put (blk_put (blk_put (blk_put (blk_put (blk_put h (o := 0) (by simp) y0) (o := 1) (by simp) y1) (o := 2) (by simp) y2) (o := 3) (by simp) y3) (o := 4) (by simp) y4) (o := 5) (by simp) y5
theorem blank_fin {W7 w9 : World} {F B9 : Nat} {x0 x1 x2 x3 x4 x5 y0 y1 y2 y3 y4 y5 vr vw : Value} {R : List Rnd} {x : Int} (hK : Blk F #[x0, x1, x2, x3, x4, x5] w9) (h1 : Made B9 (fun w => RndsAt w vr R) w9) (h2 : Made B9 (fun w => IntsAt w vw [x]) w9) (hF : F < B9) (hW : W7.heap.size ≤ F) (hb : Below W7.heap.size W7 w9) :
    Blk F #[y0, y1, y2, y3, y4, y5] ((((((w9.setCell ⟨F, 0, none⟩ y0).setCell ⟨F, 1, none⟩ y1).setCell ⟨F, 2, none⟩ y2).setCell ⟨F, 3, none⟩ y3).setCell ⟨F, 4, none⟩ y4).setCell ⟨F, 5, none⟩ y5) ∧ RndsAt ((((((w9.setCell ⟨F, 0, none⟩ y0).setCell ⟨F, 1, none⟩ y1).setCell ⟨F, 2, none⟩ y2).setCell ⟨F, 3, none⟩ y3).setCell ⟨F, 4, none⟩ y4).setCell ⟨F, 5, none⟩ y5) vr R ∧
      IntsAt ((((((w9.setCell ⟨F, 0, none⟩ y0).setCell ⟨F, 1, none⟩ y1).setCell ⟨F, 2, none⟩ y2).setCell ⟨F, 3, none⟩ y3).setCell ⟨F, 4, none⟩ y4).setCell ⟨F, 5, none⟩ y5) vw [x] ∧ Below W7.heap.size W7 ((((((w9.setCell ⟨F, 0, none⟩ y0).setCell ⟨F, 1, none⟩ y1).setCell ⟨F, 2, none⟩ y2).setCell ⟨F, 3, none⟩ y3).setCell ⟨F, 4, none⟩ y4).setCell ⟨F, 5, none⟩ y5) := by
  have hh : ∀ b, B9 ≤ b ∧ b < w9.heap.size → ((((((w9.setCell ⟨F, 0, none⟩ y0).setCell ⟨F, 1, none⟩ y1).setCell ⟨F, 2, none⟩ y2).setCell ⟨F, 3, none⟩ y3).setCell ⟨F, 4, none⟩ y4).setCell ⟨F, 5, none⟩ y5).heap[b]? = w9.heap[b]? := fun b hb' => by
    have hne : b ≠ F := by omega
    rw [Below.heap_setCell _ _ _ _ (by exact hne), Below.heap_setCell _ _ _ _ (by exact hne), Below.heap_setCell _ _ _ _ (by exact hne), Below.heap_setCell _ _ _ _ (by exact hne), Below.heap_setCell _ _ _ _ (by exact hne), Below.heap_setCell _ _ _ _ (by exact hne)]
  have one : ∀ {w2 : World} (j : Nat) (v : Value), Below W7.heap.size W7 w2 → Below W7.heap.size W7 (w2.setCell ⟨F, j, none⟩ v) := fun {w2} j v h => h.setCell (p := ⟨F, j, none⟩) hW v
  exact ⟨blk6 hK _ _ _ _ _ _, h1 _ hh, h2 _ hh, one _ _ (one _ _ (one _ _ (one _ _ (one _ _ (one _ _ hb)))))⟩

/-- A count that ends, with its winner and the rounds. -/
theorem count_x {p : Option Addr} {c k : Nat} {T : Int} {vg vl : Value} {gs : List Grp} {lots : List Int} {w : World} (hg : PileAt w vg gs) (hl : IntsAt w vl lots) (h1 : 1 ≤ k) (h7 : k ≤ 7) (t1 : 1 ≤ T) (t3 : T ≤ 3) (hp : PileP k gs) (hlt : Lots k lots) :
    Calls Try.prog 18 #[.agg #[.string ⟨#[99]⟩, .slice p k c, .int .i64 1, .int .i64 1, .int .i64 0, .int .i64 0, .int .i64 T, .int .i64 0, .int .i64 0], vg, vl] w fun e w' => ∃ pr nr cr pw cw x, e = .returned (.tuple #[.agg #[.int .i64 1, .int .i64 1, .int .i64 0, .int .i64 k, .slice pr nr cr, .slice pw 1 cw], .int .i64 0]) ∧
      nr = (countS false (brkS T lots) gs k (List.replicate k true) []).length ∧ Made w.heap.size (fun w => RndsAt w (.slice pr nr cr) (countS false (brkS T lots) gs k (List.replicate k true) [])) w' ∧ Made w.heap.size (fun w => IntsAt w (.slice pw 1 cw) [x]) w' ∧ Hid (∃ r ∈ (countS false (brkS T lots) gs k (List.replicate k true) []).getLast?, r.el = [x]) ∧ Below w.heap.size w w' := by
  refine (count_c (C := conM p k c T) hg hl (okA h1 h7 t1 t3 hp hlt)).mono ?_
  rintro e w' ⟨vr, vw, x, rfl, g1, g2, g3, g4⟩
  obtain ⟨pr, cr, rfl, _, _⟩ := g1.now.shape
  obtain ⟨pw, cw, rfl⟩ := g2.now.shape
  exact ⟨pr, _, cr, pw, cw, x, rfl, rfl, g1, g2, g3, g4⟩
theorem count_len {whole : Bool} {brk : List (List Int) → List Int → Int} {gs : List Grp} : ∀ (m : Nat) (rem : List Bool) (ear : List (List Int)), (countS whole brk gs m rem ear).length ≤ m
  | 0, _, _ => Nat.le_refl _
  | m + 1, rem, ear => by
    unfold countS
    split
    · simp
    · simp only [List.length_cons]
      have := count_len (whole := whole) (brk := brk) (gs := gs) m (rem.set (exclS brk gs rem ear).toNat false) (ear ++ [votesS gs rem])
      omega

set_option maxHeartbeats 1000000 in
theorem blank_few (n code ties kk : Int) {v : Value} {L : List (List Int)} {w : World} (hv : GridAt w v L) (hf : fewB L = false) :
    Calls Try.prog 6 #[.int .i64 n, .int .i64 code, .int .i64 ties, v, .int .i64 kk] w fun e w' => e = .returned (.bool true) ∧ Below w.heap.size w w' := by
  have FW := few_c hv
  rw [hf] at FW
  have FW := Lib.hid FW
  clear hv hf
  go_enter Try.func6, Try.ntmps6
  go_wp2_with (first
    | (go_at_call 11; ((with_reducible refine FW.out.mono ?_); rintro _ w1 ⟨rfl, rfl⟩))
    | (go_at_call 12; ((with_reducible refine (awake26 _).mono ?_); rintro _ w2 ⟨rfl, hb2⟩)))
  go_ret
  exact ⟨rfl, hb2⟩
theorem mod_one20 (x : Int) : ∃ k : Nat, 1 + x % 20 = (k : Int) ∧ 1 ≤ k ∧ k ≤ 20 := ⟨(1 + x % 20).toNat, by omega, by omega, by omega⟩

set_option maxRecDepth 100000 in
set_option maxHeartbeats 8000000 in
theorem walk_IrvBlank (n code : Int) (hc1 : -9223372036854775808 ≤ code) (hc2 : code ≤ 9223372036854775807) (ties : Int) {v : Value} {L : List (List Int)} {w : World} (hv : GridAt w v L) (kk : Int) :
    Calls Try.prog 6 #[.int .i64 n, .int .i64 code, .int .i64 ties, v, .int .i64 kk] w fun e w' => e = .returned (.bool true) ∧ Below w.heap.size w w' := by
  cases hf : fewB L with
  | false => exact blank_few n code ties kk hv hf
  | true =>
  obtain ⟨hf1, hf2⟩ := few_true.1 hf
  have FW := few_c hv
  rw [hf] at FW
  have FW := Lib.hid FW
  obtain ⟨k, hk, k1, k7⟩ := mod_one n 7 (by omega)
  obtain ⟨z, hz⟩ : ∃ z, n % ((7 : Nat) : Int) = z := ⟨_, rfl⟩
  rw [hz] at hk
  have M7 : Hid (∀ w, Calls Try.prog 16 #[.int .i64 n, .int .i64 7] w fun e w' => e = .returned (.int .i64 z) ∧ w = w') := Lib.hid (fun w => by rw [← hz]; exact mod_c n 7 (by omega) (by omega) w)
  have e2 : IntKind.i64.wrap (k : Int) = k := w64 (by omega) (by omega)
  obtain ⟨K, hK, K1, K20⟩ := mod_one20 kk
  obtain ⟨y, hy⟩ : ∃ y, kk % 20 = y := ⟨_, rfl⟩
  rw [hy] at hK
  have M20 : Hid (∀ w, Calls Try.prog 16 #[.int .i64 kk, .int .i64 20] w fun e w' => e = .returned (.int .i64 y) ∧ w = w') := Lib.hid (fun w => by rw [← hy]; exact mod_c kk 20 (by omega) (by omega) w)
  have e3 : IntKind.i64.wrap (K : Int) = K := w64 (by omega) (by omega)
  obtain ⟨T, hT⟩ : ∃ T, 1 + ties % 3 = T := ⟨_, rfl⟩
  have t1 : 1 ≤ T := by omega
  have t3 : T ≤ 3 := by omega
  have CO : Hid (∀ wq, Calls Try.prog 19 #[.int .i64 0, .int .i64 k, .int .i64 0, .int .i64 0, .int .i64 ties] wq fun e w' => ∃ p c, e = .returned (conC (conM p k c T)) ∧ Below wq.heap.size wq w') := Lib.hid (fun wq => by rw [← hT]; exact contest_c k (by omega) ties wq)
  have PL := Lib.hid (fun wq (h : Below w.heap.size w wq) => mpile_c (hv.keep h) k1 k7 hf1 hf2)
  have hgp := pile_pile (L := L) k1 hf2
  have htot : totS (pileB k L) = L.length := by unfold pileB; rw [make_tot, List.length_map]
  have P1 := Lib.hid (fun wq => perm_x k (by omega) code hc1 hc2 wq)
  obtain ⟨gs, hgs⟩ : ∃ gs, pileB k L = gs := ⟨_, rfl⟩
  rw [hgs] at PL hgp htot
  have hl1 := lots_perm k code
  obtain ⟨lots, hlo⟩ : ∃ l, permS k code = l := ⟨_, rfl⟩
  rw [hlo] at P1 hl1
  have hpos := hgp.pos
  have hgr : ∀ g ∈ gs, 0 ≤ g.n ∧ g.n ≤ 1000000 := fun g hg => by have := hpos g hg; have := mem_tot hpos hg; omega
  have hgl : gs.length ≤ 1000000 := by have := len_tot hpos; omega
  have AD := Lib.hid (fun wq vg (h1 : PileAt wq vg gs) => radd_c (p := []) (K := (K : Int)) h1 (RowAt.nil wq) hgr (by omega) hgl)
  have hg2 : PileP k (addS gs [] (K : Int)) := hgp.add ⟨fun c hc => by simp at hc, List.nodup_nil⟩ (by omega) (by omega)
  have CT := Lib.hid (fun wq p c vg vl (h1 : PileAt wq vg gs) (h2 : IntsAt wq vl lots) => count_x (p := p) (c := c) h1 h2 k1 k7 t1 t3 hgp hl1)
  have CU := Lib.hid (fun wq p c vg vl (h1 : PileAt wq vg (addS gs [] (K : Int))) (h2 : IntsAt wq vl lots) => count_x (p := p) (c := c) h1 h2 k1 k7 t1 t3 hg2 hl1)
  rw [blank_count] at CU
  have hne := count_ne (whole := false) (brk := brkS T lots) (gs := gs) (k := k - 1) (rem := List.replicate k true) (ear := [])
  rw [show k - 1 + 1 = k by omega] at hne
  have hln := count_len (whole := false) (brk := brkS T lots) (gs := gs) k (List.replicate k true) []
  have hrr : ∀ r ∈ countS false (brkS T lots) gs k (List.replicate k true) [], 0 ≤ r.exh ∧ r.exh ≤ 100000 := fun r hr => count_exh hgp r hr
  obtain ⟨R, hR⟩ : ∃ R, countS false (brkS T lots) gs k (List.replicate k true) [] = R := ⟨_, rfl⟩
  rw [hR] at CT CU hne hln hrr
  rw [List.length_map] at CU
  obtain ⟨nr, hnr⟩ : ∃ n, R.length = n := ⟨_, rfl⟩
  have hnp := List.length_pos_iff.2 hne
  have EQ : Hid (∀ wq va vb (l : List Int), IntsAt wq va l → IntsAt wq vb l → Calls Try.prog 13 #[va, vb] wq fun e w' => e = .returned (.bool true) ∧ Below wq.heap.size wq w') := Lib.hid (fun wq va vb l h1 h2 => by
    have := eq_c h1 h2
    rwa [decide_eq_true rfl] at this)
  obtain ⟨pv, nv, cv, rfl⟩ : ∃ p n c, v = .slice p n c := by obtain ⟨p, c, e⟩ := hv.shp; exact ⟨_, _, _, e⟩
  have HWIN : Hid (∀ x x', (∃ r ∈ R.getLast?, r.el = [x]) → (∃ r ∈ (R.map (moreR K)).getLast?, r.el = [x']) → x' = x) := Lib.hid (fun x x' ⟨r, hr, hx⟩ ⟨r', hr', hx'⟩ => by
    rw [List.getLast?_map, Option.mem_def] at hr'
    rw [Option.mem_def] at hr
    rw [hr] at hr'
    simp only [Option.map_some, Option.some.injEq] at hr'
    rw [← hr'] at hx'
    have : [x] = [x'] := hx.symm.trans hx'
    simpa using this.symm)
  have HRR := Lib.hid hrr
  clear hz hy hT hgp htot hgs hf hf1 hf2 hv hlo hpos hgr hgl hg2 hl1 hR hne hrr
  rw [hnr] at CT CU hnp hln
  have HNR := Lib.hid hnr
  clear hnr
  unfold conC conM conV nmV at CO
  simp only at CO
  go_enter Try.func6, Try.ntmps6
  go_wp2_with (first
    | (go_at_call 11; ((with_reducible refine FW.out.mono ?_); rintro _ w1 ⟨rfl, rfl⟩))
    | (go_at_call 16; ((with_reducible refine (M7.out _).mono ?_); rintro _ w2 ⟨rfl, rfl⟩))
    | (go_at_call 16; ((with_reducible refine (M20.out _).mono ?_); rintro _ w2 ⟨rfl, rfl⟩))
    | (go_at_call 19; ((with_reducible refine (CO.out _).mono ?_); rintro _ w3 ⟨p, c, rfl, hb3⟩)))
  have K3 := Lib.hid (Blk.new w3 #[.string ⟨#[99]⟩, .slice p k c, .int .i64 1, .int .i64 1, .int .i64 0, .int .i64 0, .int .i64 T, .int .i64 0, .int .i64 0] 40)
  have b3 : Below w.heap.size w (w3.alloc (.cells #[.string ⟨#[99]⟩, .slice p k c, .int .i64 1, .int .i64 1, .int .i64 0, .int .i64 0, .int .i64 T, .int .i64 0, .int .i64 0] 40)) := below_al hb3 _
  obtain ⟨W3, hW3⟩ : ∃ W3, w3.alloc (.cells #[.string ⟨#[99]⟩, .slice p k c, .int .i64 1, .int .i64 1, .int .i64 0, .int .i64 0, .int .i64 T, .int .i64 0, .int .i64 0] 40) = W3 := ⟨_, rfl⟩
  rw [hW3] at K3 b3 ⊢
  clear hW3
  obtain ⟨B, hB⟩ : ∃ B, w3.heap.size = B := ⟨_, rfl⟩
  rw [hB] at K3 ⊢
  clear hB
  go_wp2_with (first
    | (go_at_call 17; ((with_reducible refine (PL.out _ b3).mono ?_); rintro _ w4 ⟨v4, rfl, h4, hb4⟩))
    | (go_at_call 20; ((with_reducible refine (P1.out _).mono ?_); rintro _ w5 ⟨v5, rfl, h5, _, hb5⟩; have b5 := bel2' hb4 hb5; obtain ⟨x0, x1, x2, x3, x4, x5, x6, x7, x8⟩ := nine_cells (K3.out.keep b5); have h45 := h4.keep hb5))
    | (go_at_call 18; ((with_reducible refine (CT.out _ _ _ _ _ h45 h5).mono ?_); rintro _ w6 ⟨pr, nr0, cr, pw, cw, x, rfl, rfl, h6, h6w, hwin, hb6⟩; have h6 := h6.now; have h6w := h6w.now; have b6 := bel2' b5 hb6; have h46 := h45.keep hb6; have h56 := h5.keep hb6)))
  have K7 := Lib.hid (Blk.new w6 #[.int .i64 1, .int .i64 1, .int .i64 0, .int .i64 k, .slice pr nr0 cr, .slice pw 1 cw] 34)
  have b7 : Below W3.heap.size W3 (w6.alloc (.cells #[.int .i64 1, .int .i64 1, .int .i64 0, .int .i64 k, .slice pr nr0 cr, .slice pw 1 cw] 34)) := below_al b6 _
  have a7 : Below w6.heap.size w6 (w6.alloc (.cells #[.int .i64 1, .int .i64 1, .int .i64 0, .int .i64 k, .slice pr nr0 cr, .slice pw 1 cw] 34)) := below_al (Below.refl _ _) _
  have H47 := Lib.hid (h46.keep a7)
  have H57 := Lib.hid (h56.keep a7)
  have H7 := Lib.hid (h6.keep a7)
  have H7w := Lib.hid (h6w.keep a7)
  obtain ⟨W7, hW7⟩ : ∃ W, w6.alloc (.cells #[.int .i64 1, .int .i64 1, .int .i64 0, .int .i64 k, .slice pr nr0 cr, .slice pw 1 cw] 34) = W := ⟨_, rfl⟩
  rw [hW7] at K7 b7 H47 H57 H7 H7w ⊢
  clear hW7 a7 h4 h45 h46 h5 h56 h6 h6w x0 x1 x2 x3 x4 x5 x6 x7 x8
  obtain ⟨B7, hB7⟩ : ∃ B, w6.heap.size = B := ⟨_, rfl⟩
  rw [hB7] at K7 ⊢
  clear hB7
  have K37 := Lib.hid (fun W' (h : Below W7.heap.size W7 W') => nine_cells ((K3.out.keep b7).keep h))
  have ADD : Hid (∀ wq, Below W7.heap.size W7 wq → Calls Try.prog 33 #[v4, .slice none 0 0, .int .i64 K] wq fun e w' => ∃ v', e = .returned v' ∧ PileAt w' v' (addS gs [] (K : Int)) ∧ Below W7.heap.size W7 w' ∧ Below wq.heap.size wq w') := Lib.hid (fun wq h => (AD.out wq v4 (H47.out.keep h)).mono (by rintro e w' ⟨v', rfl, g1, g2⟩; exact ⟨v', rfl, g1, bel2' h g2, g2⟩))
  have CUU : Hid (∀ wq vg, PileAt wq vg (addS gs [] (K : Int)) → Below W7.heap.size W7 wq → Calls Try.prog 18 #[.agg #[.string ⟨#[99]⟩, .slice p k c, .int .i64 1, .int .i64 1, .int .i64 0, .int .i64 0, .int .i64 T, .int .i64 0, .int .i64 0], vg, v5] wq fun e w' => ∃ pr2 cr2 pw2 cw2, e = .returned (.tuple #[.agg #[.int .i64 1, .int .i64 1, .int .i64 0, .int .i64 k, .slice pr2 nr0 cr2, .slice pw2 1 cw2], .int .i64 0]) ∧ Made wq.heap.size (fun w => RndsAt w (.slice pr2 nr0 cr2) (R.map (moreR K))) w' ∧ Made wq.heap.size (fun w => IntsAt w (.slice pw2 1 cw2) [x]) w' ∧ Below W7.heap.size W7 w' ∧ Below wq.heap.size wq w') := Lib.hid (fun wq vg h1 h => by
    refine (CU.out wq p c vg v5 h1 (H57.out.keep h)).mono ?_
    rintro e w' ⟨pr2, nr2, cr2, pw2, cw2, x', rfl, rfl, g1, g2, g3, g4⟩
    have := HWIN.out x x' hwin.out g3.out
    subst this
    exact ⟨pr2, cr2, pw2, cw2, rfl, g1, g2, bel2' h g4, g4⟩)
  have KA : Hid (Blk W7.heap.size #[.int .i64 0, .int .i64 0, .int .i64 0, .int .i64 0, .slice none 0 0, .slice none 0 0] (W7.alloc (.cells #[.int .i64 0, .int .i64 0, .int .i64 0, .int .i64 0, .slice none 0 0, .slice none 0 0] 34)).drew) := Lib.hid (Blk.new W7 #[.int .i64 0, .int .i64 0, .int .i64 0, .int .i64 0, .slice none 0 0, .slice none 0 0] 34).drew
  have BA : Below W7.heap.size W7 (W7.alloc (.cells #[.int .i64 0, .int .i64 0, .int .i64 0, .int .i64 0, .slice none 0 0, .slice none 0 0] 34)).drew := (below_al (Below.refl _ _) _).drew
  have BD : Below W7.heap.size W7 W7.drew := (Below.refl _ _).drew
  go_cut [16, 17] (fun s16 s17 wx => ∃ F pr2 cr2 pw2 cw2, s16 = .pointer (some ⟨F, 0, none⟩) ∧ s17 = .int .i64 0 ∧ Hid (Blk F #[.int .i64 1, .int .i64 1, .int .i64 0, .int .i64 k, .slice pr2 nr0 cr2, .slice pw2 1 cw2] wx ∧ RndsAt wx (.slice pr2 nr0 cr2) (R.map (moreR K)) ∧ IntsAt wx (.slice pw2 1 cw2) [x] ∧ Below W7.heap.size W7 wx))
  case first =>
    go_region_held3 (fun w' => w'.cell? ⟨B, 0, none⟩ = some (.string ⟨#[99]⟩) ∧ w'.cell? ⟨B, 1, none⟩ = some (.slice p k c) ∧ w'.cell? ⟨B, 2, none⟩ = some (.int .i64 1) ∧ w'.cell? ⟨B, 3, none⟩ = some (.int .i64 1) ∧ w'.cell? ⟨B, 4, none⟩ = some (.int .i64 0) ∧ w'.cell? ⟨B, 5, none⟩ = some (.int .i64 0) ∧ w'.cell? ⟨B, 6, none⟩ = some (.int .i64 T) ∧ w'.cell? ⟨B, 7, none⟩ = some (.int .i64 0) ∧ w'.cell? ⟨B, 8, none⟩ = some (.int .i64 0))
      (first | exact K37.out _ (by (repeat (first | with_reducible exact hb9 | with_reducible exact hb8 | with_reducible exact z9 | with_reducible exact z8 | with_reducible exact Below.refl _ _ | with_reducible exact Nat.le_refl _ | with_reducible refine Below.drew ?_ | with_reducible refine Below.alloc ?_ ?_ _ | with_reducible refine Below.setCell ?_ ?_ _ | (simp; done) | (simp; omega)))))
      (first
        | (go_at_call 33; ((with_reducible refine (ADD.out (W7.alloc (.cells #[.int .i64 0, .int .i64 0, .int .i64 0, .int .i64 0, .slice none 0 0, .slice none 0 0] 34)).drew BA).mono ?_); rintro _ w8 ⟨v8, rfl, h8, hb8, hc8⟩; have z8 := hb8.size; have KA8 := Lib.hid (KA.out.keep hc8)))
        | (go_at_call 33; ((with_reducible refine (ADD.out W7.drew BD).mono ?_); rintro _ w8 ⟨v8, rfl, h8, hb8, hc8⟩; have z8 := hb8.size))
        | (go_at_call 18; ((with_reducible refine (CUU.out (w8.alloc (.cells #[.int .i64 0, .int .i64 0, .int .i64 0, .int .i64 0, .slice none 0 0, .slice none 0 0] 34)) v8 (h8.keep (below_al (Below.refl _ _) _)) (below_al hb8 _)).mono ?_); rintro _ w9 ⟨pr2, cr2, pw2, cw2, rfl, h9, h9w, hb9, hc9⟩; have z9 := hb9.size; have KB9 := Lib.hid ((Blk.new w8 #[.int .i64 0, .int .i64 0, .int .i64 0, .int .i64 0, .slice none 0 0, .slice none 0 0] 34).keep hc9); obtain ⟨k0, k1, k2, k3, k4, k5⟩ := cells6 KB9.out; obtain ⟨m0, m1, m2, m3, m4, m5⟩ := frees6 KB9.out))
        | (go_at_call 18; ((with_reducible refine (CUU.out w8 v8 h8 hb8).mono ?_); rintro _ w9 ⟨pr2, cr2, pw2, cw2, rfl, h9, h9w, hb9, hc9⟩; have z9 := hb9.size; have KA9 := Lib.hid (KA8.out.keep hc9); obtain ⟨k0, k1, k2, k3, k4, k5⟩ := cells6 KA9.out; obtain ⟨m0, m1, m2, m3, m4, m5⟩ := frees6 KA9.out))
        | (go_at_call 18; ((with_reducible refine (CUU.out w8 v8 h8 hb8).mono ?_); rintro _ w9 ⟨pr2, cr2, pw2, cw2, rfl, h9, h9w, hb9, hc9⟩; have z9 := hb9.size)))
    all_goals
      go_wp2_with fail
      go_meet
      first
        | (refine ⟨w9.heap.size, pr2, cr2, pw2, cw2, (by with_reducible rfl), (by with_reducible rfl), ?_⟩; exact Lib.hid ⟨Blk.new w9 _ _, h9.now.keep (below_al (Below.refl _ _) _), h9w.now.keep (below_al (Below.refl _ _) _), below_al hb9 _⟩)
        | (refine ⟨W7.heap.size, pr2, cr2, pw2, cw2, (by with_reducible rfl), (by with_reducible rfl), ?_⟩; exact Lib.hid (blank_fin KA9.out h9 h9w KA8.out.1 (Nat.le_refl _) hb9))
        | (refine ⟨w8.heap.size, pr2, cr2, pw2, cw2, (by with_reducible rfl), (by with_reducible rfl), ?_⟩; exact Lib.hid (blank_fin KB9.out h9 h9w (by simp) z8 hb9))
  case rest =>
    obtain ⟨F, pr2, cr2, pw2, cw2, rfl, rfl, hU⟩ := hcut
    have HK7 := Lib.hid (K7.out.keep hU.out.2.2.2)
    have HKF := Lib.hid hU.out.1
    have t4 : wc.cell? ⟨B7, 4, none⟩ = some (.slice pr nr0 cr) := HK7.out.2.1 4
    have t5 : wc.cell? ⟨B7, 5, none⟩ = some (.slice pw 1 cw) := HK7.out.2.1 5
    have u4 : wc.cell? ⟨F, 4, none⟩ = some (.slice pr2 nr0 cr2) := HKF.out.2.1 4
    have u5 : wc.cell? ⟨F, 5, none⟩ = some (.slice pw2 1 cw2) := HKF.out.2.1 5
    have HT := Lib.hid (H7.out.keep hU.out.2.2.2)
    have HTW := Lib.hid (H7w.out.keep hU.out.2.2.2)
    have HU := Lib.hid hU.out.2.1
    have HUW := Lib.hid hU.out.2.2.1
    have hbc := Lib.hid (bel2' (bel2' b3 b7) hU.out.2.2.2)
    have q0 : ((nr0 : Int) != (nr0 : Int)) = false := by simp
    have q1 : ((nr0 : Int) == 0) = false := by rw [beq_eq_false_iff_ne]; omega
    clear KA BA BD ADD CUU K37 CT CU AD HWIN hwin hU
    go_wp2_with (go_at_call 13; ((with_reducible refine (EQ.out _ _ _ _ HTW.out HUW.out).mono ?_); rintro _ w10 ⟨rfl, hb10⟩; have t4' := cell_keep hb10 t4))
    have HT := Lib.hid (HT.out.keep hb10)
    have HU := Lib.hid (HU.out.keep hb10)
    have t4 := Lib.hid (cell_keep hb10 t4)
    have u4 := Lib.hid (cell_keep hb10 u4)
    have hbc := Lib.hid (bel2' hbc.out hb10)
    clear t4' t5 u5 HTW HUW hb10
    go_loopw [18] (fun iv wr => ∃ i : Nat, i ≤ nr0 ∧ iv = .int .i64 i ∧ Below w10.heap.size w10 wr) (fun iv _ => nr0 - (intOf iv).toNat)
    case atStart => exact ⟨0, by omega, rfl, Below.refl _ _⟩
    case round =>
      obtain ⟨i, hi, rfl, hbel⟩ := hrel
      have t4r := cell_keep hbel t4.out
      have u4r := cell_keep hbel u4.out
      by_cases hlt : i < nr0
      · have hltz : (i : Int) < (nr0 : Int) := by omega
        obtain ⟨r, hr⟩ : ∃ r, R[i]? = some r := ⟨_, List.getElem?_eq_getElem (by rw [HNR.out]; exact hlt)⟩
        have hr2 : (R.map (moreR K))[i]? = some (moreR K r) := by rw [List.getElem?_map, hr]; rfl
        have hrm : r ∈ R := List.mem_of_getElem? hr
        have hex := HRR.out r hrm
        obtain ⟨g, off, a, b, q1, q2, e1, e2, s1, s2, l1, l2, l3, e4, en1, hc1, hc2, V1, C1⟩ := rnd_at (HT.out.keep hbel) hr
        obtain ⟨g', off', a', b', q1', q2', e1', e2', s1', s2', l1', l2', l3', e5, en2, hc3, hc4, V2, C2⟩ := rnd_at (HU.out.keep hbel) hr2
        clear en1 en2
        subst e4
        subst e5
        rw [HNR.out] at hc1
        rw [List.length_map, HNR.out] at hc3
        obtain ⟨pa, na, ca, pb, nb, cb, pq1, nq1, cq1, pq2, nq2, cq2, pe1, ne1, ce1, pe2, ne2, ce2, ps1, ns1, cs1, ps2, ns2, cs2, pl1, nl1, cl1, pl2, nl2, cl2, pl3, nl3, cl3, rfl, rfl, rfl, rfl, rfl, rfl, rfl, rfl, rfl, rfl, rfl⟩ := rndv_sh V1
        obtain ⟨pa', na', ca', pb', nb', cb', pq1', nq1', cq1', pq2', nq2', cq2', pe1', ne1', ce1', pe2', ne2', ce2', ps1', ns1', cs1', ps2', ns2', cs2', pl1', nl1', cl1', pl2', nl2', cl2', pl3', nl3', cl3', rfl, rfl, rfl, rfl, rfl, rfl, rfl, rfl, rfl, rfl, rfl⟩ := rndv_sh V2
        have V1 := Lib.hid V1
        have V2 := Lib.hid V2
        have C1 := Lib.hid C1
        have C2 := Lib.hid C2
        have hro := Lib.hid hbel
        have t4h := Lib.hid t4r
        have u4h := Lib.hid u4r
        have HALL : Hid (∀ W', Below wr.heap.size wr W' → W'.cell? ⟨B7, 4, none⟩ = some (.slice (some ⟨g, off, none⟩) nr0 cr) ∧ W'.cell? ⟨F, 4, none⟩ = some (.slice (some ⟨g', off', none⟩) nr0 cr2) ∧ RndC W' g (off + i * 14) (.slice pa na ca) (.slice pb nb cb) (.slice pq1 nq1 cq1) (.slice pq2 nq2 cq2) (.slice pe1 ne1 ce1) (.slice pe2 ne2 ce2) (.slice ps1 ns1 cs1) (.slice ps2 ns2 cs2) (.slice pl1 nl1 cl1) (.slice pl2 nl2 cl2) (.slice pl3 nl3 cl3) ∧ RndC W' g' (off' + i * 14) (.slice pa' na' ca') (.slice pb' nb' cb') (.slice pq1' nq1' cq1') (.slice pq2' nq2' cq2') (.slice pe1' ne1' ce1') (.slice pe2' ne2' ce2') (.slice ps1' ns1' cs1') (.slice ps2' ns2' cs2') (.slice pl1' nl1' cl1') (.slice pl2' nl2' cl2') (.slice pl3' nl3' cl3')) := Lib.hid (fun W' h => ⟨cell_keep h t4h.out, cell_keep h u4h.out, C1.out.keep h, C2.out.keep h⟩)
        unfold RndC at HALL
        obtain ⟨wo, rfl⟩ : ∃ x, x = wr := ⟨_, rfl⟩
        clear hr hr2 hrm hbel
        go_upto_region 13 with fail
        go_cut [19, 20] (fun s19 s20 wx => ∃ X Y, X ≠ Y ∧ s19 = .pointer (some ⟨X, 0, none⟩) ∧ s20 = .pointer (some ⟨Y, 0, none⟩) ∧ wo.heap.size ≤ X ∧ wo.heap.size ≤ Y ∧ Hid (Blk X #[.slice pa na ca, .slice pb nb cb, .bool false, .slice pq1 nq1 cq1, .slice pq2 nq2 cq2, .bool false, .slice pe1 ne1 ce1, .slice pe2 ne2 ce2, .bool false, .slice ps1 ns1 cs1, .slice ps2 ns2 cs2, .slice pl1 nl1 cl1, .slice pl2 nl2 cl2, .slice pl3 nl3 cl3] wx ∧ Blk Y #[.slice pa' na' ca', .slice pb' nb' cb', .bool false, .slice pq1' nq1' cq1', .slice pq2' nq2' cq2', .bool false, .slice pe1' ne1' ce1', .slice pe2' ne2' ce2', .bool false, .slice ps1' ns1' cs1', .slice ps2' ns2' cs2', .slice pl1' nl1' cl1', .slice pl2' nl2' cl2', .slice pl3' nl3' cl3'] wx ∧ Below wo.heap.size wo wx))
        case first =>
          obtain ⟨m0, m1, m2, m3, m4, m5, m6, m7, m8, m9, m10, m11, m12, m13⟩ := frees14 (blk_pair wo #[.slice none 0 0, .slice none 0 0, .bool false, .slice none 0 0, .slice none 0 0, .bool false, .slice none 0 0, .slice none 0 0, .bool false, .slice none 0 0, .slice none 0 0, .slice none 0 0, .slice none 0 0, .slice none 0 0] #[.slice none 0 0, .slice none 0 0, .bool false, .slice none 0 0, .slice none 0 0, .bool false, .slice none 0 0, .slice none 0 0, .bool false, .slice none 0 0, .slice none 0 0, .slice none 0 0, .slice none 0 0, .slice none 0 0] 54 54).1
          obtain ⟨k0, k1, k2, k3, k4, k5, k6, k7, k8, k9, k10, k11, k12, k13⟩ := frees14 (blk_pair wo #[.slice none 0 0, .slice none 0 0, .bool false, .slice none 0 0, .slice none 0 0, .bool false, .slice none 0 0, .slice none 0 0, .bool false, .slice none 0 0, .slice none 0 0, .slice none 0 0, .slice none 0 0, .slice none 0 0] #[.slice none 0 0, .slice none 0 0, .bool false, .slice none 0 0, .slice none 0 0, .bool false, .slice none 0 0, .slice none 0 0, .bool false, .slice none 0 0, .slice none 0 0, .slice none 0 0, .slice none 0 0, .slice none 0 0] 54 54).2.1
          go_region_held3 (fun W' => W'.cell? ⟨B7, 4, none⟩ = some (.slice (some ⟨g, off, none⟩) nr0 cr) ∧ W'.cell? ⟨F, 4, none⟩ = some (.slice (some ⟨g', off', none⟩) nr0 cr2) ∧ (W'.cell? ⟨g, off + i * 14, none⟩ = some (.slice pa na ca) ∧ W'.cell? ⟨g, off + i * 14 + 1, none⟩ = some (.slice pb nb cb) ∧ W'.cell? ⟨g, off + i * 14 + 2, none⟩ = some (.bool false) ∧ W'.cell? ⟨g, off + i * 14 + 3, none⟩ = some (.slice pq1 nq1 cq1) ∧ W'.cell? ⟨g, off + i * 14 + 4, none⟩ = some (.slice pq2 nq2 cq2) ∧ W'.cell? ⟨g, off + i * 14 + 5, none⟩ = some (.bool false) ∧ W'.cell? ⟨g, off + i * 14 + 6, none⟩ = some (.slice pe1 ne1 ce1) ∧ W'.cell? ⟨g, off + i * 14 + 7, none⟩ = some (.slice pe2 ne2 ce2) ∧ W'.cell? ⟨g, off + i * 14 + 8, none⟩ = some (.bool false) ∧ W'.cell? ⟨g, off + i * 14 + 9, none⟩ = some (.slice ps1 ns1 cs1) ∧ W'.cell? ⟨g, off + i * 14 + 10, none⟩ = some (.slice ps2 ns2 cs2) ∧ W'.cell? ⟨g, off + i * 14 + 11, none⟩ = some (.slice pl1 nl1 cl1) ∧ W'.cell? ⟨g, off + i * 14 + 12, none⟩ = some (.slice pl2 nl2 cl2) ∧ W'.cell? ⟨g, off + i * 14 + 13, none⟩ = some (.slice pl3 nl3 cl3)) ∧ (W'.cell? ⟨g', off' + i * 14, none⟩ = some (.slice pa' na' ca') ∧ W'.cell? ⟨g', off' + i * 14 + 1, none⟩ = some (.slice pb' nb' cb') ∧ W'.cell? ⟨g', off' + i * 14 + 2, none⟩ = some (.bool false) ∧ W'.cell? ⟨g', off' + i * 14 + 3, none⟩ = some (.slice pq1' nq1' cq1') ∧ W'.cell? ⟨g', off' + i * 14 + 4, none⟩ = some (.slice pq2' nq2' cq2') ∧ W'.cell? ⟨g', off' + i * 14 + 5, none⟩ = some (.bool false) ∧ W'.cell? ⟨g', off' + i * 14 + 6, none⟩ = some (.slice pe1' ne1' ce1') ∧ W'.cell? ⟨g', off' + i * 14 + 7, none⟩ = some (.slice pe2' ne2' ce2') ∧ W'.cell? ⟨g', off' + i * 14 + 8, none⟩ = some (.bool false) ∧ W'.cell? ⟨g', off' + i * 14 + 9, none⟩ = some (.slice ps1' ns1' cs1') ∧ W'.cell? ⟨g', off' + i * 14 + 10, none⟩ = some (.slice ps2' ns2' cs2') ∧ W'.cell? ⟨g', off' + i * 14 + 11, none⟩ = some (.slice pl1' nl1' cl1') ∧ W'.cell? ⟨g', off' + i * 14 + 12, none⟩ = some (.slice pl2' nl2' cl2') ∧ W'.cell? ⟨g', off' + i * 14 + 13, none⟩ = some (.slice pl3' nl3' cl3')))
            (first | exact HALL.out _ (by repeat (first | with_reducible exact Below.refl _ _ | with_reducible exact Nat.le_refl _ | with_reducible refine Below.drew ?_ | with_reducible refine Below.alloc ?_ ?_ _ | with_reducible refine Below.setCell ?_ ?_ _ | (simp; done) | (simp; omega))))
            (first | fail)
          all_goals
            go_wp2_with fail
            go_meet
            first
              | exact ⟨_, _, by omega, rfl, rfl, by omega, by omega, Lib.hid (blk_pair _ _ _ _ _)⟩
              | exact ⟨_, _, by omega, rfl, rfl, by omega, by omega, Lib.hid ⟨(blk_pair _ _ _ _ _).2.1, (blk_pair _ _ _ _ _).1, (blk_pair _ _ _ _ _).2.2⟩⟩
        case rest =>
          obtain ⟨X, Y, hXY, rfl, rfl, hX, hY, hP⟩ := hcut
          have hYX : Y ≠ X := fun e => hXY e.symm
          have HX := Lib.hid hP.out.1
          have HY := Lib.hid hP.out.2.1
          have HB := Lib.hid hP.out.2.2
          have HE : Hid (∀ W', Below wc.heap.size wc W' → W'.cell? ⟨X, 5, none⟩ = some (.bool false) ∧ W'.cell? ⟨X, 6, none⟩ = some (.slice pe1 ne1 ce1) ∧ W'.cell? ⟨X, 7, none⟩ = some (.slice pe2 ne2 ce2) ∧ W'.cell? ⟨Y, 5, none⟩ = some (.bool false) ∧ W'.cell? ⟨Y, 6, none⟩ = some (.slice pe1' ne1' ce1') ∧ W'.cell? ⟨Y, 7, none⟩ = some (.slice pe2' ne2' ce2')) := Lib.hid (fun W' h => ⟨(HX.out.keep h).2.1 5, (HX.out.keep h).2.1 6, (HX.out.keep h).2.1 7, (HY.out.keep h).2.1 5, (HY.out.keep h).2.1 6, (HY.out.keep h).2.1 7⟩)
          have hN1 := hex.1
          have hN2 := hex.2
          obtain ⟨N, hN⟩ : ∃ N, r.exh.toNat = N := ⟨_, rfl⟩
          have hNe : (r.exh + (K : Int)).toNat = N + K := by omega
          have hNb : N ≤ 100000 := by omega
          have FX : Hid (∀ wq, Below wc.heap.size wc wq → Calls Try.prog 24 #[.agg #[.bool false, .slice pe1 ne1 ce1, .slice pe2 ne2 ce2]] wq (GivesW N wq)) := Lib.hid (fun wq h => by
            have := wfrom_c (V1.out.h.exh.keep (bel2' HB.out h))
            rwa [hN] at this)
          have FY : Hid (∀ wq, Below wc.heap.size wc wq → Calls Try.prog 24 #[.agg #[.bool false, .slice pe1' ne1' ce1', .slice pe2' ne2' ce2']] wq (GivesW (N + K) wq)) := Lib.hid (fun wq h => by
            have := wfrom_c (x := r.exh + (K : Int)) (V2.out.h.exh.keep (bel2' HB.out h))
            rwa [hNe] at this)
          have OF := Lib.hid (fun wq => wof_c K (by omega) wq)
          have AD : Hid (∀ {p1 p2 p3 p4 : Option Addr} {l1 k1 l2 k2 l3 k3 l4 k4 : Nat} {wq : World}, WAt wq p1 l1 k1 p2 l2 k2 N → WAt wq p3 l3 k3 p4 l4 k4 K → Calls Try.prog 25 #[.agg #[.bool false, .slice p1 l1 k1, .slice p2 l2 k2], .agg #[.bool false, .slice p3 l3 k3, .slice p4 l4 k4]] wq (GivesW (N + K) wq)) := Lib.hid (fun h1 h2 => wadd_c h1 h2 (by omega) (by omega))
          have CM : Hid (∀ {p1 p2 p3 p4 : Option Addr} {l1 k1 l2 k2 l3 k3 l4 k4 : Nat} {wq : World}, WAt wq p1 l1 k1 p2 l2 k2 (N + K) → WAt wq p3 l3 k3 p4 l4 k4 (N + K) → Calls Try.prog 26 #[.agg #[.bool false, .slice p1 l1 k1, .slice p2 l2 k2], .agg #[.bool false, .slice p3 l3 k3, .slice p4 l4 k4]] wq fun e w' => e = .returned (.int .i64 0) ∧ Below wq.heap.size wq w') := Lib.hid (fun h1 h2 => by
            have := wcmp_c h1 h2 (by omega) (by omega)
            rwa [show cmpI ((N + K : Nat) : Int) ((N + K : Nat) : Int) = 0 by unfold cmpI; rw [if_neg (by omega), if_neg (by omega)]] at this)
          have SR : Hid (∀ wq, Below wo.heap.size wo wq → Calls Try.prog 34 #[.agg #[.slice pa na ca, .slice pb nb cb, .bool false, .slice pq1 nq1 cq1, .slice pq2 nq2 cq2, .bool false, .slice pe1' ne1' ce1', .slice pe2' ne2' ce2', .bool false, .slice ps1 ns1 cs1, .slice ps2 ns2 cs2, .slice pl1 nl1 cl1, .slice pl2 nl2 cl2, .slice pl3 nl3 cl3], .agg #[.slice pa' na' ca', .slice pb' nb' cb', .bool false, .slice pq1' nq1' cq1', .slice pq2' nq2' cq2', .bool false, .slice pe1' ne1' ce1', .slice pe2' ne2' ce2', .bool false, .slice ps1' ns1' cs1', .slice ps2' ns2' cs2', .slice pl1' nl1' cl1', .slice pl2' nl2' cl2', .slice pl3' nl3' cl3']] wq fun e w' => e = .returned (.bool true) ∧ Below wq.heap.size wq w') := Lib.hid (fun wq h =>
            sameround_c (r := moreR K r) ⟨⟨V1.out.h.votes.keep h, V1.out.h.keep.keep h, V1.out.h.quota.keep h, V2.out.h.exh.keep h, V1.out.h.sur.keep h⟩, V1.out.el.keep h, V1.out.ex.keep h, V1.out.ti.keep h⟩ (V2.out.keep h))
          have BD : Below wc.heap.size wc wc.drew := (Below.refl _ _).drew
          clear hP hN hNe hN1 hN2 hex
          go_wp2_with fail
          go_region_held3 (fun W' => W'.cell? ⟨X, 5, none⟩ = some (.bool false) ∧ W'.cell? ⟨X, 6, none⟩ = some (.slice pe1 ne1 ce1) ∧ W'.cell? ⟨X, 7, none⟩ = some (.slice pe2 ne2 ce2) ∧ W'.cell? ⟨Y, 5, none⟩ = some (.bool false) ∧ W'.cell? ⟨Y, 6, none⟩ = some (.slice pe1' ne1' ce1') ∧ W'.cell? ⟨Y, 7, none⟩ = some (.slice pe2' ne2' ce2'))
            (first | with_reducible exact HE.out _ b24 | with_reducible exact HE.out _ b23 | with_reducible exact HE.out _ b22 | with_reducible exact HE.out _ b21 | with_reducible exact HE.out _ b20 | with_reducible exact HE.out _ BD)
            (first
              | (go_at_call 24; ((with_reducible refine (FX.out _ BD).mono ?_); rintro _ w20 ⟨pA, lA, kA, pB, lB, kB, rfl, hA, hb20⟩; have b20 := bel2' BD hb20))
              | (go_at_call 27; ((with_reducible refine (OF.out _).mono ?_); rintro _ w21 ⟨pC, lC, kC, pD, lD, kD, rfl, hC, hb21⟩; have b21 := bel2' b20 hb21; have hA1 := hA.keep hb21))
              | (go_at_call 25; ((with_reducible refine (AD.out hA1 hC).mono ?_); rintro _ w22 ⟨pE, lE, kE, pG, lG, kG, rfl, hE, hb22⟩; have b22 := bel2' b21 hb22))
              | (go_at_call 24; ((with_reducible refine (FY.out _ b22).mono ?_); rintro _ w23 ⟨pH, lH, kH, pI, lI, kI, rfl, hH, hb23⟩; have b23 := bel2' b22 hb23; have hE1 := hE.keep hb23))
              | (go_at_call 26; ((with_reducible refine (CM.out hE1 hH).mono ?_); rintro _ w24 ⟨rfl, hb24⟩; have b24 := bel2' b23 hb24)))
          all_goals
            have HX24 := HX.out.keep b24
            have HY24 := HY.out.keep b24
            obtain ⟨x0, x1, x2, x3, x4, x5, x6, x7, x8, x9, x10, x11, x12, x13⟩ := cells14 HX24
            obtain ⟨f0, f1, f2, f3, f4, f5, f6, f7, f8, f9, f10, f11, f12, f13⟩ := frees14 HX24
            obtain ⟨y0, y1, y2, y3, y4, y5, y6, y7, y8, y9, y10, y11, y12, y13⟩ := cells14 HY24
            have HB24 := Lib.hid (bel2' HB.out b24)
            clear HX24 HY24
            go_wp2_with (first
              | (go_at_call 34; ((with_reducible refine (SR.out _ (below3 HB24.out hX _ _ _)).mono ?_); rintro _ w25 ⟨rfl, hb25⟩; have HB25 := bel2' (below3 HB24.out hX _ _ _) hb25)))
            go_roundw
            case rel => exact ⟨i + 1, by omega, by go_num, bel2' hro.out HB25⟩
            case measure => simp [intOf] <;> omega
      · obtain rfl : nr0 = i := by omega
        have hltz : ¬ (nr0 : Int) < (nr0 : Int) := by omega
        go_wp2_with (first
          | (go_at_call 12; ((with_reducible refine (awake26 _).mono ?_); rintro _ wA ⟨rfl, hbA⟩)))
        go_ret
        exact ⟨rfl, bel2' (bel2' hbc.out hbel) hbA⟩

end Go.Proofs.Ytbnhgmikegdppaa

/- IrvSums: the plain facts of a round. -/
namespace Go.Proofs.Nums
/-- What the law looks at in a round, x its winner or its excluded one. -/
structure RdF (k : Nat) (tot : Int) (rem : List Bool) (r : Rnd) (x : Nat) : Prop where
  len : r.votes.length = k
  sum : r.votes.sum + r.exh = tot
  nn : ∀ v ∈ r.votes, 0 ≤ v ∧ v ≤ 100000
  exh : 0 ≤ r.exh ∧ r.exh ≤ 100000
  lt : x < k
  rmx : rem[x]? = some true
  quo : 0 ≤ r.quota ∧ r.quota ≤ 1000000
  alt : (r.el = [(x : Int)] ∧ r.ex = [] ∧ (1 < (aliveS rem).length → r.quota ≤ r.votes.getD x 0)) ∨ (r.el = [] ∧ r.ex = [(x : Int)] ∧ ∀ j, rem[j]? = some true → r.votes.getD x 0 ≤ r.votes.getD j 0)
def CInv (brk : List (List Int) → List Int → Int) (gs : List Grp) (k : Nat) (R : List Rnd) (i : Nat) (rem : List Bool) : Prop :=
  ∃ m ear, R.drop i = countS false brk gs m rem ear ∧ rem.length = k ∧ (m = 0 ∨ (aliveS rem).length = m)
theorem remB_at {rem : List Bool} {x : Int} (h : remB rem x = true) : ∃ n : Nat, x = n ∧ n < rem.length ∧ rem[n]? = some true := by
  obtain ⟨h0, h1⟩ := remB_lt h
  refine ⟨x.toNat, by omega, by omega, ?_⟩
  unfold remB at h
  rw [Bool.and_eq_true, List.getD_eq_getElem?_getD] at h
  have := h.2
  rw [List.getElem?_eq_getElem (by omega)] at this ⊢
  simpa using this
theorem at_remB {rem : List Bool} {n : Nat} (h : rem[n]? = some true) : remB rem n = true := by
  unfold remB
  rw [Int.toNat_natCast, List.getD_eq_getElem?_getD, h]
  simp
theorem votes_at {gs : List Grp} {rem : List Bool} {n : Nat} (h : n < rem.length) : (votesS gs rem).getD n 0 = wt (remB rem) gs n := by
  unfold votesS
  rw [List.getD_eq_getElem?_getD, List.getElem?_map, List.getElem?_range h]
  rfl
theorem svotes_len (gs : List Grp) (rem : List Bool) : (votesS gs rem).length = rem.length := by
  unfold votesS
  rw [List.length_map, List.length_range]
theorem svotes_rng {gs : List Grp} {rem : List Bool} {n : Int} (hp : PileP n gs) : ∀ v ∈ votesS gs rem, 0 ≤ v ∧ v ≤ 100000 := fun v hv => by
  unfold votesS at hv
  obtain ⟨i, _, rfl⟩ := List.mem_map.1 hv
  have h1 := wt_tot (R := remB rem) hp.pos (i : Int)
  have := hp.tot
  have h0 : 0 ≤ wt (remB rem) gs (i : Int) := sumF_nn hp.pos
  omega
theorem quota_rng {gs : List Grp} {rem : List Bool} {n : Int} (hp : PileP n gs) : 0 ≤ quotaS gs rem ∧ quotaS gs rem ≤ 1000000 := by
  unfold quotaS
  have h1 := votes_rest gs rem
  have h2 := rest_rng (rem := rem) hp
  have h3 : sumF (fun _ => true) gs ≤ 100000 := hp.tot
  have h4 : 0 ≤ (votesS gs rem).sum := by rw [votes_sum]; exact sumF_nn hp.pos
  omega
theorem set_at {rem : List Bool} {x : Int} {n : Nat} (h : x = n) : rem.set x.toNat false = rem.set n false := by subst h; rfl
theorem rd_step {brk : List (List Int) → List Int → Int} {gs : List Grp} {k : Nat} {R : List Rnd} {i : Nat} {rem : List Bool} (hp : PileP k gs) (hb : Brk k brk) (h : CInv brk gs k R i rem) (hi : i < R.length) :
    ∃ r x, R[i]? = some r ∧ RdF k (totS gs) rem r x ∧ CInv brk gs k R (i + 1) (rem.set x false) := by
  obtain ⟨m, ear, hd, hl, hm⟩ := h
  cases m with
  | zero =>
    have : (R.drop i).length = 0 := by rw [hd]; rfl
    rw [List.length_drop] at this
    omega
  | succ m =>
    have hal : (aliveS rem).length = m + 1 := by omega
    have hne : aliveS rem ≠ [] := fun e => by rw [e] at hal; simp at hal
    have hR : ∀ r t, R.drop i = r :: t → R[i]? = some r ∧ R.drop (i + 1) = t := fun r t e => by
      have e1 : (R.drop i)[0]? = some r := by rw [e]; rfl
      rw [List.getElem?_drop, Nat.add_zero] at e1
      refine ⟨e1, ?_⟩
      have e2 : (R.drop i).drop 1 = t := by rw [e]; rfl
      rwa [List.drop_drop] at e2
    have hsum : (votesS gs rem).sum + restS gs rem = totS gs := votes_rest gs rem
    unfold countS at hd
    split at hd
    · next w hw =>
      have hwa := List.mem_of_find?_eq_some hw
      have hwf := List.find?_some hw
      obtain ⟨n, rfl, hn, hrn⟩ := remB_at (mem_alive.1 hwa)
      obtain ⟨h1, h2⟩ := hR _ _ hd
      refine ⟨_, n, h1, ⟨by rw [← hl]; exact svotes_len gs rem, hsum, svotes_rng hp, rest_rng hp, by omega, hrn, quota_rng hp, Or.inl ⟨rfl, rfl, fun h1 => ?_⟩⟩, 0, [], h2, by rw [List.length_set]; exact hl, Or.inl rfl⟩
      show quotaS gs rem ≤ (votesS gs rem).getD n 0
      rw [votes_at hn]
      unfold wins at hwf
      rw [Bool.or_eq_true, Bool.and_eq_true, decide_eq_true_iff, decide_eq_true_iff] at hwf
      rcases hwf with h | h
      · exact h.2
      · omega
    · next hw =>
      obtain ⟨h1, h2⟩ := hR _ _ hd
      have hx := excl_low (gs := gs) (ear := ear) (rem := rem) (by rw [hl]; exact hb) hne
      obtain ⟨n, en, hn, hrn⟩ := remB_at (mem_alive.1 (low_sub hx))
      rw [set_at en] at h2
      have hlow := mem_low.1 hx
      have hls := alive_less (low_sub hx)
      rw [set_at en] at hls
      refine ⟨_, n, h1, ⟨by rw [← hl]; exact svotes_len gs rem, hsum, svotes_rng hp, rest_rng hp, by omega, hrn, quota_rng hp, Or.inr ⟨rfl, by show [exclS brk gs rem ear] = _; rw [en], fun j hj => ?_⟩⟩, m, _, h2, by rw [List.length_set]; exact hl, Or.inr (by omega)⟩
      show (votesS gs rem).getD n 0 ≤ (votesS gs rem).getD j 0
      have hjl : j < rem.length := (List.getElem?_eq_some_iff.1 hj).1
      rw [votes_at hn, votes_at hjl, ← en]
      exact hlow.2 _ (at_remB hj)
theorem rd_start {brk : List (List Int) → List Int → Int} {gs : List Grp} {k : Nat} : CInv brk gs k (countS false brk gs k (List.replicate k true) []) 0 (List.replicate k true) :=
  ⟨k, [], rfl, List.length_replicate, Or.inr (by rw [alive_full, List.length_map, List.length_range])⟩
end Go.Proofs.Nums

/- IrvSums: a frame that leaves out one block, and whole numbers that are new memory. -/
namespace Go.Proofs.Ytbnhgmikegdppaa
open Go.RowKit Go.Proofs.Kit Go.Proofs.Nums
/-- Below w0's size the world w is as w0 was, but for the block S. -/
structure OffB (S : Nat) (w0 w : World) : Prop where
  os : w.os = w0.os
  tape : w.tape = w0.tape
  output : w.output = w0.output
  size : w0.heap.size ≤ w.heap.size
  block : ∀ k, k < w0.heap.size → k ≠ S → w.heap[k]? = w0.heap[k]?
theorem OffB.refl (S : Nat) (w : World) : OffB S w w := ⟨rfl, rfl, rfl, Nat.le_refl _, fun _ _ _ => rfl⟩
theorem OffB.go {S : Nat} {w0 w w' : World} (h : OffB S w0 w) (hb : Below w.heap.size w w') : OffB S w0 w' :=
  ⟨hb.os.trans h.os, hb.tape.trans h.tape, hb.output.trans h.output, Nat.le_trans h.size hb.size, fun k hk hn => (hb.block k (Nat.lt_of_lt_of_le hk h.size)).trans (h.block k hk hn)⟩
theorem OffB.set {S : Nat} {w0 w : World} (h : OffB S w0 w) (j : Nat) (v : Value) : OffB S w0 (w.setCell ⟨S, j, none⟩ v) :=
  ⟨h.os, h.tape, h.output, by simpa using h.size, fun k hk hn => (Below.heap_setCell _ _ _ _ (by exact hn)).trans (h.block k hk hn)⟩
theorem OffB.set3 {S : Nat} {w0 w : World} (h : OffB S w0 w) (x y z : Value) : OffB S w0 (((w.setCell ⟨S, 0, none⟩ x).setCell ⟨S, 1, none⟩ y).setCell ⟨S, 2, none⟩ z) :=
  ((h.set 0 x).set 1 y).set 2 z
theorem OffB.bel {S n : Nat} {w00 w0 w : World} (h : OffB S w0 w) (hb : Below n w00 w0) (hS : n ≤ S) (hn : n ≤ w0.heap.size) : Below n w00 w :=
  hb.trans ⟨h.os, h.tape, h.output, h.size, fun k hk => h.block k (by omega) (by omega)⟩
theorem OffB.blk {S X : Nat} {cs : Array Value} {w0 w : World} (h : OffB S w0 w) (hK : Blk X cs w0) (hne : X ≠ S) : Blk X cs w := hK.off (h.block X hK.1 hne) h.size
theorem OffB.bool {S G n : Nat} {o : List Bool} {w0 w : World} (h : OffB S w0 w) (hO : OwnBool w0 G G n o) (hne : G ≠ S) : OwnBool w G G n o :=
  ⟨hO.1, ownsRow_block hO.2 fun g hg => h.block g (hO.2.lt g hg).2 (fun e => hne ((show G = g by simpa [Value.ownBlock] using hg).trans e))⟩
theorem row_offb {S : Nat} {w0 w : World} {v : Value} {cs : List Value} (h : OffB S w0 w) (hr : RowAt w0 v cs) (hf : Fresh (S + 1) v) : RowAt w v cs := by
  obtain ⟨p, cap, rfl, h1, h2, h3, h4⟩ := hr
  refine ⟨p, cap, rfl, h1, h2, h3, fun q hq i u hi => ?_⟩
  have e : (q.add i).block = q.block := by
    cases q
    first | rfl | (unfold Addr.add; split <;> rfl)
  have hc := h4 q hq i u hi
  have hlt := World.block_lt_of_cell? _ _ hc
  have hS : S + 1 ≤ q.block := hf _ (by subst hq; rfl)
  rw [World.cell?_of_block (w := w0) (a := q.add i) (h.block _ hlt (by omega))]
  exact hc
/-- The whole number n in memory from B on. -/
def WFr (w : World) (B : Nat) (p : Option Addr) (l k : Nat) (p' : Option Addr) (l' k' n : Nat) : Prop := RFr w (.agg #[.bool false, .slice p l k, .slice p' l' k']) (wq n) B
theorem WFr.at {w : World} {B : Nat} {p p' : Option Addr} {l k l' k' n : Nat} (h : WFr w B p l k p' l' k' n) : WAt w p l k p' l' k' n := RFr.at h
theorem WFr.off {S B : Nat} {w0 w : World} {p p' : Option Addr} {l k l' k' n : Nat} (h : WFr w0 B p l k p' l' k' n) (hS : S < B) (hw : OffB S w0 w) : WFr w B p l k p' l' k' n := by
  obtain ⟨vn, vd, e, h1, h2, h3, h4⟩ := h
  exact ⟨vn, vd, e, row_offb hw h1 (h3.mono hS), row_offb hw h2 (h4.mono hS), h3, h4⟩
theorem WFr.mono {B B' : Nat} {w : World} {p p' : Option Addr} {l k l' k' n : Nat} (h : WFr w B p l k p' l' k' n) (hB : B' ≤ B) : WFr w B' p l k p' l' k' n := by
  obtain ⟨vn, vd, e, h1, h2, h3, h4⟩ := h
  exact ⟨vn, vd, e, h1, h2, h3.mono hB, h4.mono hB⟩
def GivesN (n : Nat) (w : World) (e : Ending) (w' : World) : Prop := ∃ p l k p' l' k', e = .returned (.agg #[.bool false, .slice p l k, .slice p' l' k']) ∧ WFr w' w.heap.size p l k p' l' k' n ∧ Below w.heap.size w w'
theorem wfrom_f {p p' : Option Addr} {l k l' k' : Nat} {x : Int} {w : World} (h : ratR w [.bool false, .slice p l k, .slice p' l' k'] (wholeQ x)) :
    Calls Try.prog 24 #[.agg #[.bool false, .slice p l k, .slice p' l' k']] w (GivesN x.toNat w) := by
  obtain ⟨_, _, _, _, _, _, e, hr, _⟩ := h
  simp only [List.cons.injEq, Value.slice.injEq, and_true, true_and] at e
  obtain ⟨⟨rfl, rfl, rfl⟩, rfl, rfl, rfl⟩ := e
  have ha : RatAt w (.agg #[.bool false, .slice p l k, .slice p' l' k']) (wholeQ x) 2 := by
    obtain ⟨vn, vd, e, h1, h2⟩ := hr
    exact ⟨vn, vd, e, h1.num, h2.num⟩
  refine (rfrom_r ha (by omega)).mono ?_
  rintro e w' ⟨v', rfl, g1, g2⟩
  rw [whole_wq, norm_wq] at g1
  obtain ⟨p1, l1, k1, p2, l2, k2, rfl, _⟩ := g1.shape
  exact ⟨p1, l1, k1, p2, l2, k2, rfl, g1, g2⟩
theorem wadd_f {p1 p2 p3 p4 : Option Addr} {l1 k1 l2 k2 l3 k3 l4 k4 a b : Nat} {w : World} (ha : WAt w p1 l1 k1 p2 l2 k2 a) (hb : WAt w p3 l3 k3 p4 l4 k4 b) (h1 : a ≤ 1000000) (h2 : b ≤ 1000000) :
    Calls Try.prog 25 #[.agg #[.bool false, .slice p1 l1 k1, .slice p2 l2 k2], .agg #[.bool false, .slice p3 l3 k3, .slice p4 l4 k4]] w (GivesN (a + b) w) := by
  refine (radd_r ha hb (wq_sz h1) (wq_sz h2)).mono ?_
  rintro e w' ⟨v', rfl, g1, g2⟩
  rw [add_wq] at g1
  obtain ⟨p1, l1, k1, p2, l2, k2, rfl, _⟩ := g1.shape
  exact ⟨p1, l1, k1, p2, l2, k2, rfl, g1, g2⟩
theorem sum_nn {l : List Int} (h : ∀ v ∈ l, 0 ≤ v) : 0 ≤ l.sum := by
  induction l with
  | nil => simp
  | cons a t ih =>
    rw [List.sum_cons]
    have := h a (List.mem_cons_self ..)
    have := ih fun v hv => h v (List.mem_cons_of_mem _ hv)
    omega
/-- The sum of the first j votes and those without a vote. -/
def psum (r : Rnd) (j : Nat) : Nat := (r.exh + (r.votes.take j).sum).toNat
theorem psum_step {r : Rnd} {j k : Nat} {tot : Int} {rem : List Bool} {x : Nat} (h : RdF k tot rem r x) (hj : j < k) : psum r (j + 1) = psum r j + (r.votes.getD j 0).toNat := by
  have hl : j < r.votes.length := by rw [h.len]; exact hj
  have h0 : ∀ i, 0 ≤ (r.votes.take i).sum := fun i => sum_nn fun v hv => (h.nn v (List.mem_of_mem_take hv)).1
  have h1 := h0 j
  have h2 := h.nn _ (List.getElem_mem hl)
  unfold psum
  rw [List.take_succ_eq_append_getElem hl, List.sum_append, List.sum_singleton, List.getD_eq_getElem?_getD, List.getElem?_eq_getElem hl, Option.getD_some]
  have := h.exh.1
  omega
theorem psum_all {r : Rnd} {k : Nat} {tot : Int} {rem : List Bool} {x : Nat} (h : RdF k tot rem r x) : psum r k = tot.toNat := by
  unfold psum
  rw [List.take_of_length_le (by rw [h.len]; exact Nat.le_refl _)]
  have := h.sum
  omega
theorem psum_le {r : Rnd} {j k : Nat} {tot : Int} {rem : List Bool} {x : Nat} (h : RdF k tot rem r x) (hj : j ≤ k) : psum r j ≤ 100000 * (j + 1) := by
  induction j with
  | zero =>
    unfold psum
    have := h.exh
    simp
    omega
  | succ j ih =>
    rw [psum_step h (by omega)]
    have := ih (by omega)
    have hl : j < r.votes.length := by rw [h.len]; omega
    have h2 := h.nn _ (List.getElem_mem hl)
    rw [List.getD_eq_getElem?_getD, List.getElem?_eq_getElem hl, Option.getD_some]
    omega
end Go.Proofs.Ytbnhgmikegdppaa

/- IrvSums: the walk. -/
namespace Go.Proofs.Ytbnhgmikegdppaa
open Go.RowKit Go.Proofs.Kit Go.Proofs.Nums
theorem rndv_sn {w : World} {a b q1 q2 e1 e2 s1 s2 l1 l2 l3 : Value} {r : Rnd} {k n1 n2 : Nat} (h : RndV w a b q1 q2 e1 e2 s1 s2 l1 l2 l3 r) (hk : r.votes.length = k) (h1 : r.el.length = n1) (h2 : r.ex.length = n2) : ∃ pa ca pl1 cl1 pl2 cl2 pb nb cb pq1 nq1 cq1 pq2 nq2 cq2 pe1 ne1 ce1 pe2 ne2 ce2 ps1 ns1 cs1 ps2 ns2 cs2 pl3 nl3 cl3, a = .slice pa k ca ∧ b = .slice pb nb cb ∧ q1 = .slice pq1 nq1 cq1 ∧ q2 = .slice pq2 nq2 cq2 ∧ e1 = .slice pe1 ne1 ce1 ∧ e2 = .slice pe2 ne2 ce2 ∧ s1 = .slice ps1 ns1 cs1 ∧ s2 = .slice ps2 ns2 cs2 ∧ l1 = .slice pl1 n1 cl1 ∧ l2 = .slice pl2 n2 cl2 ∧ l3 = .slice pl3 nl3 cl3 := by
  obtain ⟨pa, ca, ea, _, _⟩ := h.h.votes.shape
  rw [wholes_len, hk] at ea
  obtain ⟨pb, cb, eb, _, _⟩ := h.h.keep.shape
  obtain ⟨p1, m1, c1, p2, m2, c2, e1, _⟩ := h.h.quota
  obtain ⟨p3, m3, c3, p4, m4, c4, e2, _⟩ := h.h.exh
  obtain ⟨p5, m5, c5, p6, m6, c6, e3, _⟩ := h.h.sur
  obtain ⟨p7, c7, e4⟩ := h.el.shape
  obtain ⟨p8, c8, e5⟩ := h.ex.shape
  obtain ⟨p9, c9, e6⟩ := h.ti.shape
  rw [h1] at e4
  rw [h2] at e5
  simp only [List.cons.injEq, and_true, true_and] at e1 e2 e3
  exact ⟨_, _, _, _, _, _, _, _, _, _, _, _, _, _, _, _, _, _, _, _, _, _, _, _, _, _, _, _, _, _, ea, eb, e1.1, e1.2, e2.1, e2.2, e3.1, e3.2, e4, e5, e6⟩
theorem WFr.keep {w w' : World} {B : Nat} {p p' : Option Addr} {l k l' k' n : Nat} (h : WFr w B p l k p' l' k' n) (hb : Below w.heap.size w w') : WFr w' B p l k p' l' k' n := by
  obtain ⟨vn, vd, e, h1, h2, h3, h4⟩ := h
  exact ⟨vn, vd, e, h1.keep hb, h2.keep hb, h3, h4⟩
theorem whole_get {l : List Int} {j : Nat} (h : j < l.length) : (wholesS l).getD j (Q.of 0) = wholeQ (l.getD j 0) := by
  unfold wholesS
  rw [List.getD_eq_getElem?_getD, List.getElem?_map, List.getD_eq_getElem?_getD, List.getElem?_eq_getElem h]
  rfl
theorem blk3 {b : Nat} {w : World} {x0 x1 x2 : Value} (h : Blk b #[x0, x1, x2] w) (y0 y1 y2 : Value) : Blk b #[y0, y1, y2] (((w.setCell ⟨b, 0, none⟩ y0).setCell ⟨b, 1, none⟩ y1).setCell ⟨b, 2, none⟩ y2) :=
  blk_put (blk_put (blk_put h (o := 0) (by simp) y0) (o := 1) (by simp) y1) (o := 2) (by simp) y2
theorem cells3 {b : Nat} {w : World} {x0 x1 x2 : Value} (h : Blk b #[x0, x1, x2] w) : w.cell? ⟨b, 0, none⟩ = some x0 ∧ w.cell? ⟨b, 1, none⟩ = some x1 ∧ w.cell? ⟨b, 2, none⟩ = some x2 := ⟨h.2.1 0, h.2.1 1, h.2.1 2⟩
theorem getD_true {l : List Bool} {j : Nat} (h : l.getD j false = true) : l[j]? = some true := by
  rw [List.getD_eq_getElem?_getD] at h
  cases e : l[j]? with
  | none => rw [e] at h; cases h
  | some b => rw [e] at h; simp at h; rw [h]
theorem getD_mem {l : List Int} {j : Nat} (h : j < l.length) : l.getD j 0 ∈ l := by
  rw [List.getD_eq_getElem?_getD, List.getElem?_eq_getElem h]
  exact List.getElem_mem h
theorem app_fin {w : World} {B n x : Nat} {v : Value} {cs : List Value} (h : w.ownsRow B 3 1 v n cs) (hc : cs = [.int .i64 x]) : ∃ b o c, v = .slice (some ⟨b, o, none⟩) 1 c ∧ w.cell? ⟨b, o, none⟩ = some (.int .i64 x) := by
  subst hc
  have h1 : IntsAt w v [(x : Int)] := RowAt.owned h
  obtain ⟨p, c, rfl⟩ := h1.shape
  obtain ⟨b, o, hp, _, _, hcell⟩ := h1.cellAt 0 (by simp)
  subst hp
  exact ⟨b, o, c, rfl, by simpa using hcell⟩
theorem last_at {R : List Rnd} {n : Nat} {x : Int} (h : ∃ r ∈ R.getLast?, r.el = [x]) (hn : R.length = n) : ∃ r m, n = m + 1 ∧ R[m]? = some r ∧ r.el = [x] := by
  obtain ⟨r, hr, he⟩ := h
  have hr : R.getLast? = some r := hr
  rw [List.getLast?_eq_getElem?] at hr
  have := (List.getElem?_eq_some_iff.1 hr).1
  exact ⟨r, R.length - 1, by omega, hr, he⟩
set_option maxRecDepth 100000 in
set_option maxHeartbeats 1000000 in
theorem sums_few (n code ties : Int) {v : Value} {L : List (List Int)} {w : World} (hv : GridAt w v L) (hf : fewB L = false) :
    Calls Try.prog 4 #[.int .i64 n, .int .i64 code, .int .i64 ties, v] w fun e w' => e = .returned (.bool true) ∧ Below w.heap.size w w' := by
  have FW := few_c hv
  rw [hf] at FW
  have FW := Lib.hid FW
  clear hv hf
  go_enter Try.func4, Try.ntmps4
  go_wp2_with (first
    | (go_at_call 11; ((with_reducible refine FW.out.mono ?_); rintro _ w1 ⟨rfl, rfl⟩))
    | (go_at_call 12; ((with_reducible refine (awake26 _).mono ?_); rintro _ w2 ⟨rfl, hb2⟩)))
  go_ret
  exact ⟨rfl, hb2⟩

set_option maxRecDepth 100000 in
set_option maxHeartbeats 8000000 in
theorem walk_IrvSums (n code : Int) (hc1 : -9223372036854775808 ≤ code) (hc2 : code ≤ 9223372036854775807) (ties : Int) {v : Value} {L : List (List Int)} {w : World} (hv : GridAt w v L) :
    Calls Try.prog 4 #[.int .i64 n, .int .i64 code, .int .i64 ties, v] w fun e w' => e = .returned (.bool true) ∧ Below w.heap.size w w' := by
  cases hf : fewB L with
  | false => exact sums_few n code ties hv hf
  | true =>
  obtain ⟨hf1, hf2⟩ := few_true.1 hf
  have FW := few_c hv
  rw [hf] at FW
  have FW := Lib.hid FW
  obtain ⟨k, hk, k1, k7⟩ := mod_one n 7 (by omega)
  obtain ⟨z, hz⟩ : ∃ z, n % ((7 : Nat) : Int) = z := ⟨_, rfl⟩
  rw [hz] at hk
  have M7 : Hid (∀ w, Calls Try.prog 16 #[.int .i64 n, .int .i64 7] w fun e w' => e = .returned (.int .i64 z) ∧ w = w') := Lib.hid (fun w => by rw [← hz]; exact mod_c n 7 (by omega) (by omega) w)
  have e2 : IntKind.i64.wrap (k : Int) = k := w64 (by omega) (by omega)
  obtain ⟨T, hT⟩ : ∃ T, 1 + ties % 3 = T := ⟨_, rfl⟩
  have t1 : 1 ≤ T := by omega
  have t3 : T ≤ 3 := by omega
  have CO : Hid (∀ wq, Calls Try.prog 19 #[.int .i64 0, .int .i64 k, .int .i64 0, .int .i64 0, .int .i64 ties] wq fun e w' => ∃ p c, e = .returned (conC (conM p k c T)) ∧ Below wq.heap.size wq w') := Lib.hid (fun wq => by rw [← hT]; exact contest_c k (by omega) ties wq)
  have PL := Lib.hid (fun wq (h : Below w.heap.size w wq) => mpile_c (hv.keep h) k1 k7 hf1 hf2)
  have hgp := pile_pile (L := L) k1 hf2
  have htot : totS (pileB k L) = L.length := by unfold pileB; rw [make_tot, List.length_map]
  have P1 := Lib.hid (fun wq => perm_x k (by omega) code hc1 hc2 wq)
  obtain ⟨gs, hgs⟩ : ∃ gs, pileB k L = gs := ⟨_, rfl⟩
  rw [hgs] at PL hgp htot
  have hl1 := lots_perm k code
  obtain ⟨lots, hlo⟩ : ∃ l, permS k code = l := ⟨_, rfl⟩
  rw [hlo] at P1 hl1
  have CT := Lib.hid (fun wq p c vg vl (h1 : PileAt wq vg gs) (h2 : IntsAt wq vl lots) => count_x (p := p) (c := c) h1 h2 k1 k7 t1 t3 hgp hl1)
  have hne := count_ne (whole := false) (brk := brkS T lots) (gs := gs) (k := k - 1) (rem := List.replicate k true) (ear := [])
  rw [show k - 1 + 1 = k by omega] at hne
  have hln := count_len (whole := false) (brk := brkS T lots) (gs := gs) k (List.replicate k true) []
  have hst := rd_start (brk := brkS T lots) (gs := gs) (k := k)
  obtain ⟨R, hR⟩ : ∃ R, countS false (brkS T lots) gs k (List.replicate k true) [] = R := ⟨_, rfl⟩
  rw [hR] at CT hne hln hst
  have hbk := brk_in hl1 t1 t3 k1 k7
  obtain ⟨len, hlen⟩ : ∃ n, L.length = n := ⟨_, rfl⟩
  rw [hlen] at htot
  have STEP : Hid (∀ i rem, CInv (brkS T lots) gs k R i rem → i < R.length → ∃ r x, R[i]? = some r ∧ RdF k len rem r x ∧ CInv (brkS T lots) gs k R (i + 1) (rem.set x false)) := Lib.hid (fun i rem h hi => by
    have := rd_step hgp hbk h hi
    rwa [htot] at this)
  obtain ⟨nr, hnr⟩ : ∃ n, R.length = n := ⟨_, rfl⟩
  have hnp := List.length_pos_iff.2 hne
  obtain ⟨pv, cv, hvs⟩ := hv.shp
  rw [hlen] at hvs
  subst hvs
  have hl40 : len ≤ 40 := by omega
  clear hz hT hgp htot hgs hf hf1 hv hlo hl1 hR hne hlen hbk
  rw [hnr] at CT hnp hln
  have HNR := Lib.hid hnr
  have HST := Lib.hid hst
  clear hnr hst hf2
  unfold conC conM conV nmV at CO
  simp only at CO
  go_enter Try.func4, Try.ntmps4
  go_wp2_with (first
    | (go_at_call 11; ((with_reducible refine FW.out.mono ?_); rintro _ w1 ⟨rfl, rfl⟩))
    | (go_at_call 16; ((with_reducible refine (M7.out _).mono ?_); rintro _ w2 ⟨rfl, rfl⟩))
    | (go_at_call 17; ((with_reducible refine (PL.out _ (Below.refl _ _)).mono ?_); rintro _ w3 ⟨v4, rfl, h4, hb3⟩))
    | (go_at_call 19; ((with_reducible refine (CO.out _).mono ?_); rintro _ w4 ⟨p, c, rfl, hb4⟩; have b4 := bel2' hb3 hb4; have h44 := h4.keep hb4))
    | (go_at_call 20; ((with_reducible refine (P1.out _).mono ?_); rintro _ w5 ⟨v5, rfl, h5, _, hb5⟩; have b5 := bel2' b4 hb5; have h45 := h44.keep hb5))
    | (go_at_call 18; ((with_reducible refine (CT.out _ _ _ _ _ h45 h5).mono ?_); rintro _ w6 ⟨pr, nr0, cr, pw, cw, xw, rfl, rfl, h6, h6w, hwin, hb6⟩; have b6 := bel2' b5 hb6; have h6 := Lib.hid h6.now; have q1 : ¬ (nr0 : Int) < 1 := (by omega); have q2 : ¬ (k : Int) < (nr0 : Int) := (by omega); have q3 : decide ((nr0 : Int) < 1) = false := decide_eq_false q1; have q4 : decide ((k : Int) < (nr0 : Int)) = false := decide_eq_false q2; clear h6w))
    | (go_at_call 23; ((with_reducible refine (rall_c k k7 _).mono ?_); rintro _ w8 ⟨G, rfl, hO, hG, hb8⟩)))
  have b7 : Below w.heap.size w (w6.alloc (.cells #[.int .i64 1, .int .i64 1, .int .i64 0, .int .i64 k, .slice pr nr0 cr, .slice pw 1 cw] 34)) := below_al b6 _
  have K7 := (Blk.new w6 #[.int .i64 1, .int .i64 1, .int .i64 0, .int .i64 k, .slice pr nr0 cr, .slice pw 1 cw] 34)
  have H7 := h6.out.keep (below_al (Below.refl _ _) (.cells #[.int .i64 1, .int .i64 1, .int .i64 0, .int .i64 k, .slice pr nr0 cr, .slice pw 1 cw] 34))
  obtain ⟨W7, hW7⟩ : ∃ W, w6.alloc (.cells #[.int .i64 1, .int .i64 1, .int .i64 0, .int .i64 k, .slice pr nr0 cr, .slice pw 1 cw] 34) = W := ⟨_, rfl⟩
  obtain ⟨B7, hB7⟩ : ∃ B, w6.heap.size = B := ⟨_, rfl⟩
  rw [hW7] at b7 H7 hb8 hG K7
  rw [hB7] at K7 ⊢
  have hBG : B7 ≠ G := by have := K7.1; omega
  have hz8 := hb8.size
  have K7 := Lib.hid (K7.keep hb8)
  have H7 := Lib.hid H7
  have b8 := Lib.hid (bel2' b7 hb8)
  have HB8 := Lib.hid hb8
  have hw7 := b7.size
  clear hW7 hB7 h6 b7 b6 hb8 h4 h44 h45 h5 hb3 hb4 b4 hb5 b5 hb6
  go_loopw [13] (fun iv wr => ∃ (i : Nat) (rem : List Bool), i ≤ nr0 ∧ iv = .int .i64 i ∧ OwnBool wr G G k rem ∧ Hid (CInv (brkS T lots) gs k R i rem) ∧ OffB G w8 wr) (fun iv _ => nr0 - (intOf iv).toNat)
  case atStart => exact ⟨0, _, by omega, rfl, hO, HST, OffB.refl _ _⟩
  case round =>
    obtain ⟨i, rem, hi, rfl, hOr, hCI, hOff⟩ := hrel
    have t4r : wr.cell? ⟨B7, 4, none⟩ = some (.slice pr nr0 cr) := (hOff.blk K7.out hBG).2.1 4
    have hbr : Below W7.heap.size W7 wr := hOff.bel HB8.out hG hz8
    by_cases hlt : i < nr0
    · have hltz : (i : Int) < (nr0 : Int) := by omega
      obtain ⟨r, x, hr, F, hnx⟩ := STEP.out i rem hCI.out (by rw [HNR.out]; exact hlt)
      obtain ⟨g, off, a, b, q1, q2, e1, e2, s1, s2, l1, l2, l3, e4, en1, hc3, hc4, V1, C1⟩ := rnd_at (H7.out.keep hbr) hr
      subst e4
      rw [HNR.out] at hc3
      have hxk := F.lt
      have hxz : (x : Int) < (k : Int) := by omega
      have hx0 : ¬ (x : Int) < 0 := by omega
      have hxn : ¬ (k : Int) ≤ (x : Int) := by omega
      have hRX := hOr.cell hxk
      rw [List.getD_eq_getElem?_getD, F.rmx, Option.getD_some] at hRX
      have F := Lib.hid F
      have hnx := Lib.hid hnx
      have hOr := Lib.hid hOr
      have hOff := Lib.hid hOff
      have hbr := Lib.hid hbr
      clear hCI en1
      have hex := F.out.exh
      obtain ⟨M, hM⟩ : ∃ M, r.exh.toNat = M := ⟨_, rfl⟩
      have hM0 : psum r 0 = M := by rw [← hM]; unfold psum; simp
      rcases F.out.alt with ⟨he, hx, hq⟩ | ⟨he, hx, hlow⟩
      · as_aux_lemma =>
          obtain ⟨pa, ca, pl1, cl1, pl2, cl2, pb, nb, cb, pq1, nq1, cq1, pq2, nq2, cq2, pe1, ne1, ce1, pe2, ne2, ce2, ps1, ns1, cs1, ps2, ns2, cs2, pl3, nl3, cl3, rfl, rfl, rfl, rfl, rfl, rfl, rfl, rfl, rfl, rfl, rfl⟩ := rndv_sn (n1 := 1) (n2 := 0) V1 F.out.len (by rw [he]; rfl) (by rw [hx]; rfl)
          have V1 := Lib.hid V1
          obtain ⟨c0r, c1r, c2r, c3r, c4r, c5r, c6r, c7r, c8r, c9r, c10r, c11r, c12r, c13r⟩ := C1
          have qk : ((k : Int) != (k : Int)) = false := by simp
          have FX : Hid (∀ wq, Below wr.heap.size wr wq → Calls Try.prog 24 #[.agg #[.bool false, .slice pe1 ne1 ce1, .slice pe2 ne2 ce2]] wq (GivesN M wq)) := Lib.hid (fun wq h => by
            have := wfrom_f (V1.out.h.exh.keep h)
            rwa [hM] at this)
          have BX : Below wr.heap.size wr (wr.alloc (.cells #[.slice pa k ca, .slice pb nb cb, .bool false, .slice pq1 nq1 cq1, .slice pq2 nq2 cq2, .bool false, .slice pe1 ne1 ce1, .slice pe2 ne2 ce2, .bool false, .slice ps1 ns1 cs1, .slice ps2 ns2 cs2, .slice pl1 1 cl1, .slice pl2 0 cl2, .slice pl3 nl3 cl3] 54)) := below_al (Below.refl _ _) _
          have KX0 := Lib.hid (Blk.new wr #[.slice pa k ca, .slice pb nb cb, .bool false, .slice pq1 nq1 cq1, .slice pq2 nq2 cq2, .bool false, .slice pe1 ne1 ce1, .slice pe2 ne2 ce2, .bool false, .slice ps1 ns1 cs1, .slice ps2 ns2 cs2, .slice pl1 1 cl1, .slice pl2 0 cl2, .slice pl3 nl3 cl3] 54)
          clear hM hex
          go_wp2_with (first
            | (go_at_call 24; ((with_reducible refine (FX.out _ BX).mono ?_); rintro _ w20 ⟨pA, lA, kA, pB, lB, kB, rfl, hA0, hb20⟩)))
          have KS := Lib.hid (Blk.new w20 #[.bool false, .slice pA lA kA, .slice pB lB kB] 57)
          have b20 := bel2' BX hb20
          have b21 : Below wr.heap.size wr (w20.alloc (.cells #[.bool false, .slice pA lA kA, .slice pB lB kB] 57)) := below_al b20 _
          have hA := hA0.at.keep (below_al (Below.refl _ _) (.cells #[.bool false, .slice pA lA kA, .slice pB lB kB] 57))
          have KX := Lib.hid ((KX0.out.keep hb20).alloc (.cells #[.bool false, .slice pA lA kA, .slice pB lB kB] 57))
          obtain ⟨W1, hW1⟩ : ∃ W, w20.alloc (.cells #[.bool false, .slice pA lA kA, .slice pB lB kB] 57) = W := ⟨_, rfl⟩
          have hXs : wr.heap.size < w20.heap.size := by have := hb20.size; simp at this; omega
          obtain ⟨S, hS⟩ : ∃ S, w20.heap.size = S := ⟨_, rfl⟩
          obtain ⟨X, hX⟩ : ∃ X, wr.heap.size = X := ⟨_, rfl⟩
          rw [hW1] at KS KX hA b21 ⊢
          rw [hS] at KS hXs ⊢
          rw [hX] at KX hXs ⊢
          have HXE := Lib.hid hX
          have hA := Lib.hid hA
          have b21 := Lib.hid b21
          clear hW1 hS hX BX hb20 b20 FX KX0 hA0
          have XK : Hid (∀ W', Below W1.heap.size W1 W' → W'.cell? ⟨X, 11, none⟩ = some (.slice pl1 1 cl1) ∧ W'.cell? ⟨X, 12, none⟩ = some (.slice pl2 0 cl2)) := Lib.hid (fun W' h => ⟨(KX.out.keep h).2.1 11, (KX.out.keep h).2.1 12⟩)
          have BD : Below W1.heap.size W1 W1.drew := (Below.refl _ _).drew
          have HEL : Hid (∀ W', Below W1.heap.size W1 W' → IntsAt W' (.slice pl1 1 cl1) [(x : Int)]) := Lib.hid (fun W' h => by have := V1.out.el.keep (bel2' b21.out h); rwa [he] at this)
          have HEX : Hid (∀ W', Below W1.heap.size W1 W' → IntsAt W' (.slice pl2 0 cl2) ([] : List Int)) := Lib.hid (fun W' h => by have := V1.out.ex.keep (bel2' b21.out h); rwa [hx] at this)
          go_cut [16] (fun s16 wx => s16 = .int .i64 x ∧ Below W1.heap.size W1 wx)
          case first =>
            obtain ⟨x11, x12⟩ := XK.out _ BD
            go_region_law (first
              | (refine step_append_read erI (by rfl) (by rfl) hown31 (by rfl) (xv := .slice pl2 0 cl2) (HEX.out _ hb31) (by rfl) (ints_one ([] : List Int)) (by simp) (by simp) hc31.size ?_; intro v32 w32 hown32 hc32; have hb32 : Below W1.heap.size W1 w32 := hb31.trans hc32; obtain ⟨bz, oz, cz, rfl, hcz⟩ := app_fin hown32 (by rfl); clear hown32)
              | (refine step_append_read erI (by rfl) (by rfl) (World.ownsRow_nil _ _ _ _) (by rfl) (xv := .slice pl1 1 cl1) (HEL.out _ BD) (by rfl) (ints_one [(x : Int)]) (by simp) (by simp) (Nat.le_refl _) ?_; intro v31 w31 hown31 hc31; have hb31 : Below W1.heap.size W1 w31 := BD.trans hc31; obtain ⟨y11, y12⟩ := XK.out _ hb31))
            all_goals
              go_wp2_with fail
              go_meet
              exact ⟨rfl, hb32⟩
          case rest =>
            obtain ⟨rfl, hb33⟩ := hcut
            obtain ⟨wo, rfl⟩ : ∃ x, x = wr := ⟨_, rfl⟩
            have bw := bel2' b21.out hb33
            have KXc := KX.out.keep hb33
            have KSc := Lib.hid (KS.out.keep hb33)
            have x0c : wc.cell? ⟨X, 0, none⟩ = some (.slice pa k ca) := KXc.2.1 0
            have rxc := cell_keep bw hRX
            have hAc := hA.out.keep hb33
            obtain ⟨gb, go, pC, lC, kC, pD, lD, kD, ev, hv1, hv2, hr1, hr2, cv0, cv1, cv2⟩ := (V1.out.h.votes.keep bw).cellsAt (k := x) (by rw [wholes_len, F.out.len]; exact hxk) (whole_get (by rw [F.out.len]; exact hxk))
            subst ev
            rw [wholes_len, F.out.len] at hv1
            obtain ⟨vx, hvx⟩ : ∃ n, (r.votes.getD x 0).toNat = n := ⟨_, rfl⟩
            have FV : Hid (Calls Try.prog 24 #[.agg #[.bool false, .slice pC lC kC, .slice pD lD kD]] wc (GivesN vx wc)) := Lib.hid (by
              have := wfrom_f (x := r.votes.getD x 0) ⟨_, _, _, _, _, _, rfl, hr1, hr2⟩
              rwa [hvx] at this)
            have HVX := Lib.hid hvx
            have KXc := Lib.hid KXc
            have hSW : S < wc.heap.size := KSc.out.1
            have bw := Lib.hid bw
            clear hvx hr1 hr2 KS KX XK BD HEL HEX hA b21 hb33
            go_wp2_with (first
              | (go_at_call 24; ((with_reducible refine FV.out.mono ?_); rintro _ w40 ⟨pE, lE, kE, pF, lF, kF, rfl, hV, hb40⟩)))
            have KV := Blk.new w40 #[.bool false, .slice pE lE kE, .slice pF lF kF] 57
            have b42 : Below wc.heap.size wc (w40.alloc (.cells #[.bool false, .slice pE lE kE, .slice pF lF kF] 57)) := below_al hb40 _
            have hV := hV.keep (below_al (Below.refl _ _) (.cells #[.bool false, .slice pE lE kE, .slice pF lF kF] 57))
            have hVw : S < w40.heap.size := Nat.lt_of_lt_of_le hSW hb40.size
            obtain ⟨W2, hW2⟩ : ∃ W, w40.alloc (.cells #[.bool false, .slice pE lE kE, .slice pF lF kF] 57) = W := ⟨_, rfl⟩
            obtain ⟨V, hVV⟩ : ∃ V, w40.heap.size = V := ⟨_, rfl⟩
            rw [hW2] at KV b42 hV ⊢
            rw [hVV] at KV hVw ⊢
            have KV := Lib.hid KV
            have hV := Lib.hid hV
            have KS2 := KSc.out.keep b42
            have KX2 := Lib.hid (KXc.out.keep b42)
            have hA2 := Lib.hid (hAc.keep b42)
            have bw2 := Lib.hid (bel2' bw.out b42)
            have hW2s := KS2.1
            clear hW2 hVV FV hb40 hAc KXc KSc b42 x0c rxc cv0 cv1 cv2
            go_loopw [18] (fun iv wq => ∃ (j : Nat) (pS : Option Addr) (lS kS : Nat) (pT : Option Addr) (lT kT : Nat), j ≤ k ∧ iv = .int .i64 j ∧ Blk S #[.bool false, .slice pS lS kS, .slice pT lT kT] wq ∧ Hid (WAt wq pS lS kS pT lT kT (psum r j)) ∧ OffB S W2 wq) (fun iv _ => k - (intOf iv).toNat)
            case atStart => exact ⟨0, _, _, _, _, _, _, by omega, rfl, KS2, by rw [hM0]; exact hA2, OffB.refl _ _⟩
            case round =>
              obtain ⟨j, pS, lS, kS, pT, lT, kT, hj, rfl, hS, hAj, hO2⟩ := hrel
              have hbo : Below wo.heap.size wo wr := hO2.bel bw2.out (by rw [HXE.out]; omega) bw2.out.size
              have hXS : X ≠ S := by omega
              have x0r : wr.cell? ⟨X, 0, none⟩ = some (.slice (some ⟨gb, go, none⟩) k ca) := (hO2.blk KX2.out hXS).2.1 0
              by_cases hjt : j < k
              · have hjz : (j : Int) < (k : Int) := by omega
                obtain ⟨gb', go', pG, lG, kG, pH, lH, kH, ev, _, _, hr1, hr2, cv0, cv1, cv2⟩ := (V1.out.h.votes.keep hbo).cellsAt (k := j) (by rw [wholes_len, F.out.len]; exact hjt) (whole_get (by rw [F.out.len]; exact hjt))
                simp only [Option.some.injEq, Addr.mk.injEq, and_true] at ev
                obtain ⟨rfl, rfl⟩ := ev
                obtain ⟨vy, hvy⟩ : ∃ n, (r.votes.getD j 0).toNat = n := ⟨_, rfl⟩
                have FY : Hid (Calls Try.prog 24 #[.agg #[.bool false, .slice pG lG kG, .slice pH lH kH]] wr (GivesN vy wr)) := Lib.hid (by
                  have := wfrom_f (x := r.votes.getD j 0) ⟨_, _, _, _, _, _, rfl, hr1, hr2⟩
                  rwa [hvy] at this)
                have hps := psum_step F.out hjt
                rw [hvy] at hps
                have hpl := psum_le F.out hj
                have hpl2 := psum_le F.out (show j + 1 ≤ k by omega)
                have AD : Hid (∀ {p1 p2 p3 p4 : Option Addr} {l1 k1 l2 k2 l3 k3 l4 k4 : Nat} {wq : World}, WAt wq p1 l1 k1 p2 l2 k2 (psum r j) → WAt wq p3 l3 k3 p4 l4 k4 vy → Calls Try.prog 25 #[.agg #[.bool false, .slice p1 l1 k1, .slice p2 l2 k2], .agg #[.bool false, .slice p3 l3 k3, .slice p4 l4 k4]] wq (GivesN (psum r (j + 1)) wq)) := Lib.hid (fun h1 h2 => by
                  have := wadd_f h1 h2 (by omega) (by omega)
                  rwa [← hps] at this)
                have HS := Lib.hid hS
                have HVY := Lib.hid hvy
                have HPS := Lib.hid (And.intro hps (And.intro hpl hpl2))
                clear hr1 hr2 hvy hps hpl hpl2 hS
                go_upto_region 25 with (first
                  | (go_at_call 24; ((with_reducible refine FY.out.mono ?_); rintro _ w50 ⟨pI, lI, kI, pJ, lJ, kJ, rfl, hY, hb50⟩; have B5 : Below wr.heap.size wr (w50.alloc (.cells #[.bool false, .slice pI lI kI, .slice pJ lJ kJ] 57)) := below_al hb50 _; have K5 := HS.out.keep B5; have s0 := K5.2.1 0; have s1 := K5.2.1 1; have s2 := K5.2.1 2; simp only [List.getElem?_toArray, List.getElem?_cons_zero, List.getElem?_cons_succ] at s0 s1 s2))
                  | (go_at_call 25; ((with_reducible refine (AD.out (hAj.out.keep B5) (hY.at.keep (below_al (Below.refl _ _) _))).mono ?_); rintro _ w51 ⟨pK, lK, kK, pL, lL, kL, rfl, hK, hb51⟩; have K6 := K5.keep hb51; have f0 := K6.2.2 0; have f1 := K6.2.2 1; have f2 := K6.2.2 2; have g0 := K6.2.1 0; have g1 := K6.2.1 1; have g2 := K6.2.1 2; simp only [List.getElem?_toArray, List.getElem?_cons_zero, List.getElem?_cons_succ] at g0 g1 g2)))
                have hO6 := ((hO2.go B5).go hb51).set3 (.bool false) (.slice pK lK kK) (.slice pL lL kL)
                have K7 := blk3 K6 (.bool false) (.slice pK lK kK) (.slice pL lL kL)
                have hS5 : S < (w50.alloc (.cells #[.bool false, .slice pI lI kI, .slice pJ lJ kJ] 57)).heap.size := K5.1
                have hK7 := Lib.hid (hK.off hS5 ((OffB.refl S w51).set3 (.bool false) (.slice pK lK kK) (.slice pL lL kL))).at
                obtain ⟨W6, hW6⟩ : ∃ W, (((w51.setCell ⟨S, 0, none⟩ (.bool false)).setCell ⟨S, 1, none⟩ (.slice pK lK kK)).setCell ⟨S, 2, none⟩ (.slice pL lL kL)) = W := ⟨_, rfl⟩
                rw [hW6] at hO6 K7 hK7 ⊢
                have hbo6 : Below wo.heap.size wo W6 := hO6.bel bw2.out (by rw [HXE.out]; omega) bw2.out.size
                have rX := (hOr.out.keep hbo6).cell hjt
                have x12 : W6.cell? ⟨X, 12, none⟩ = some (.slice pl2 0 cl2) := (hO6.blk KX2.out hXS).2.1 12
                have K7 := Lib.hid K7
                have HO6 := Lib.hid hO6
                have hSr : S < wr.heap.size := HS.out.1
                have HYY := Lib.hid (((hY.keep (below_al (Below.refl _ _) _)).keep hb51).off hSr ((OffB.refl S w51).set3 (.bool false) (.slice pK lK kK) (.slice pL lL kL))).at
                have hYS : w50.heap.size ≠ S := by have := hb50.size; omega
                have KY := Lib.hid (((OffB.refl S w51).set3 (.bool false) (.slice pK lK kK) (.slice pL lL kL)).blk ((Blk.new w50 #[.bool false, .slice pI lI kI, .slice pJ lJ kJ] 57).keep hb51) hYS)
                rw [hW6] at HYY KY
                have KVV := Lib.hid (HO6.out.blk KV.out (show V ≠ S by omega))
                have HVV := Lib.hid (hV.out.off hSW HO6.out).at
                clear hW6 hO6 hbo6 K5 K6 s0 s1 s2 f0 f1 f2 g0 g1 g2 hb51 hK hS5 hY hb50 cv0 cv1 cv2 B5
                cases hbj : rem.getD j false
                all_goals rw [hbj] at rX
                · go_wp2_with fail
                  go_roundw
                  case rel => exact ⟨j + 1, _, _, _, _, _, _, by omega, by go_num, K7.out, hK7, HO6.out⟩
                  case measure => simp [intOf] <;> omega
                · go_wp2_with fail
                  go_roundw
                  case rel => exact ⟨j + 1, _, _, _, _, _, _, by omega, by go_num, K7.out, hK7, HO6.out⟩
                  case measure => simp [intOf] <;> omega
              · obtain rfl : k = j := by omega
                have hjz : ¬ (k : Int) < (k : Int) := by omega
                have hpa : psum r k = len := by rw [psum_all F.out]; simp
                rw [hpa] at hAj
                have HAJ := Lib.hid hAj.out
                have HS := Lib.hid hS
                have S0 : Hid (∀ W', Below wr.heap.size wr W' → W'.cell? ⟨S, 0, none⟩ = some (.bool false) ∧ W'.cell? ⟨S, 1, none⟩ = some (.slice pS lS kS) ∧ W'.cell? ⟨S, 2, none⟩ = some (.slice pT lT kT)) := Lib.hid (fun W' h => cells3 (HS.out.keep h))
                have OF := Lib.hid (fun wq => wof_c len (by omega) wq)
                have CM : Hid (∀ {p1 p2 p3 p4 : Option Addr} {l1 k1 l2 k2 l3 k3 l4 k4 : Nat} {wq : World}, WAt wq p1 l1 k1 p2 l2 k2 len → WAt wq p3 l3 k3 p4 l4 k4 len → Calls Try.prog 26 #[.agg #[.bool false, .slice p1 l1 k1, .slice p2 l2 k2], .agg #[.bool false, .slice p3 l3 k3, .slice p4 l4 k4]] wq fun e w' => e = .returned (.int .i64 0) ∧ Below wq.heap.size wq w') := Lib.hid (fun h1 h2 => by
                  have := wcmp_c h1 h2 (by omega) (by omega)
                  rwa [show cmpI (len : Int) (len : Int) = 0 by unfold cmpI; rw [if_neg (by omega), if_neg (by omega)]] at this)
                have BD : Below wr.heap.size wr wr.drew := (Below.refl _ _).drew
                clear hpa hAj hS
                go_wp2_with fail
                go_cut [151] (fun s151 wx => s151 = .bool false ∧ Below wr.heap.size wr wx)
                case first =>
                  go_region_held3 (fun W' => W'.cell? ⟨S, 0, none⟩ = some (.bool false) ∧ W'.cell? ⟨S, 1, none⟩ = some (.slice pS lS kS) ∧ W'.cell? ⟨S, 2, none⟩ = some (.slice pT lT kT))
                    (first | with_reducible exact S0.out _ b71 | with_reducible exact S0.out _ b70 | with_reducible exact S0.out _ BD)
                    (first
                      | (go_at_call 27; ((with_reducible refine (OF.out _).mono ?_); rintro _ w70 ⟨pM, lM, kM, pN, lN, kN, rfl, hL7, hb70⟩; have b70 := bel2' BD hb70))
                      | (go_at_call 26; ((with_reducible refine (CM.out (HAJ.out.keep b70) hL7).mono ?_); rintro _ w71 ⟨rfl, hb71⟩; have b71 := bel2' b70 hb71)))
                  all_goals
                    go_wp2_with fail
                    go_meet
                    exact ⟨rfl, b71⟩
                case rest =>
                  obtain ⟨rfl, hb151⟩ := hcut
                  have hboc := bel2' hbo hb151
                  have hX29 := (hO2.blk KX2.out hXS).keep hb151
                  have x11 : wc.cell? ⟨X, 11, none⟩ = some (.slice pl1 1 cl1) := hX29.2.1 11
                  have BD : Below wc.heap.size wc wc.drew := (Below.refl _ _).drew
                  have hOb := Lib.hid (hOr.out.keep hboc)
                  have hV29 := (hO2.blk KV.out (show V ≠ S by omega)).keep hb151
                  have SZ : Hid (∀ W', Below wc.heap.size wc W' → Calls Try.prog 28 #[.slice (some ⟨G, 0, none⟩) k k] W' fun e w' => e = .returned (.int .i64 ((aliveS rem).length : Nat)) ∧ W' = w') := Lib.hid (fun W' h => size_c ((hOb.out.keep h).read) (by rw [hOb.out.1]; omega))
                  have S29 : Hid (∀ W', Below wc.heap.size wc W' → W'.cell? ⟨X, 11, none⟩ = some (.slice pl1 1 cl1) ∧ W'.cell? ⟨X, 2, none⟩ = some (.bool false) ∧ W'.cell? ⟨X, 3, none⟩ = some (.slice pq1 nq1 cq1) ∧ W'.cell? ⟨X, 4, none⟩ = some (.slice pq2 nq2 cq2) ∧ W'.cell? ⟨V, 0, none⟩ = some (.bool false) ∧ W'.cell? ⟨V, 1, none⟩ = some (.slice pE lE kE) ∧ W'.cell? ⟨V, 2, none⟩ = some (.slice pF lF kF)) := Lib.hid (fun W' h => ⟨(hX29.keep h).2.1 11, (hX29.keep h).2.1 2, (hX29.keep h).2.1 3, (hX29.keep h).2.1 4, cells3 (hV29.keep h)⟩)
                  have HVz : Hid (WAt wc pE lE kE pF lF kF vx) := Lib.hid ((hV.out.off hSW hO2).at.keep hb151)
                  have FQ : Hid (∀ W', Below wc.heap.size wc W' → Calls Try.prog 24 #[.agg #[.bool false, .slice pq1 nq1 cq1, .slice pq2 nq2 cq2]] W' (GivesN r.quota.toNat W')) := Lib.hid (fun W' h => wfrom_f (V1.out.h.quota.keep (bel2' hboc h)))
                  have hquo := F.out.quo
                  obtain ⟨Q0, hQ0⟩ : ∃ n, r.quota.toNat = n := ⟨_, rfl⟩
                  rw [hQ0] at FQ
                  obtain ⟨sz, hsz⟩ : ∃ n, (aliveS rem).length = n := ⟨_, rfl⟩
                  rw [hsz] at SZ hq
                  have hn2 := F.out.nn _ (getD_mem (l := r.votes) (j := x) (by rw [F.out.len]; exact hxk))
                  have hv2' := HVX.out
                  clear hX29 OF CM HAJ S0 hV29 hsz
                  go_wp2_with fail
                  go_cut [168] (fun s168 wx => s168 = .bool false ∧ Below wo.heap.size wo wx)
                  case first =>
                    by_cases hs1 : 1 < sz
                    · have hq1 := hq hs1
                      obtain ⟨cz, hcz⟩ : ∃ c, cmpI (vx : Int) (Q0 : Int) = c := ⟨_, rfl⟩
                      have hcn : ¬ cz < 0 := by rw [← hcz]; unfold cmpI; repeat (first | split | omega)
                      have hcd : decide (cz < 0) = false := decide_eq_false hcn
                      have CQ : Hid (∀ {p1 p2 p3 p4 : Option Addr} {l1 k1 l2 k2 l3 k3 l4 k4 : Nat} {wq : World}, WAt wq p1 l1 k1 p2 l2 k2 vx → WAt wq p3 l3 k3 p4 l4 k4 Q0 → Calls Try.prog 26 #[.agg #[.bool false, .slice p1 l1 k1, .slice p2 l2 k2], .agg #[.bool false, .slice p3 l3 k3, .slice p4 l4 k4]] wq fun e w' => e = .returned (.int .i64 cz) ∧ Below wq.heap.size wq w') := Lib.hid (fun h1 h2 => by
                        have := wcmp_c h1 h2 (by omega) (by omega)
                        rwa [hcz] at this)
                      have hsg : (1 : Int) < (sz : Int) := by omega
                      have hsd : decide ((1 : Int) < (sz : Int)) = true := decide_eq_true hsg
                      clear hcz hn2 hv2' hq1 hquo hQ0 hq
                      go_region_held3 (fun W' => W'.cell? ⟨X, 11, none⟩ = some (.slice pl1 1 cl1) ∧ W'.cell? ⟨X, 2, none⟩ = some (.bool false) ∧ W'.cell? ⟨X, 3, none⟩ = some (.slice pq1 nq1 cq1) ∧ W'.cell? ⟨X, 4, none⟩ = some (.slice pq2 nq2 cq2) ∧ W'.cell? ⟨V, 0, none⟩ = some (.bool false) ∧ W'.cell? ⟨V, 1, none⟩ = some (.slice pE lE kE) ∧ W'.cell? ⟨V, 2, none⟩ = some (.slice pF lF kF))
                        (first | with_reducible exact S29.out _ b81 | with_reducible exact S29.out _ b80 | with_reducible exact S29.out _ BD)
                        (first
                          | (go_at_call 28; ((with_reducible refine (SZ.out _ BD).mono ?_); rintro _ w79 ⟨rfl, rfl⟩))
                          | (go_at_call 24; ((with_reducible refine (FQ.out _ BD).mono ?_); rintro _ w80 ⟨pM, lM, kM, pN, lN, kN, rfl, hL8, hb80⟩; have b80 := bel2' BD hb80))
                          | (go_at_call 26; ((with_reducible refine (CQ.out (HVz.out.keep b80) hL8.at).mono ?_); rintro _ w81 ⟨rfl, hb81⟩; have b81 := bel2' b80 hb81)))
                      all_goals
                        go_wp2_with fail
                        go_meet
                        exact ⟨rfl, bel2' hboc b81⟩
                    · have hsg : ¬ (1 : Int) < (sz : Int) := by omega
                      have hsd : decide ((1 : Int) < (sz : Int)) = false := decide_eq_false hsg
                      have SQ : Hid (∀ r, Calls Try.prog 28 #[.slice (some ⟨G, 0, none⟩) k k] (wc.drewN r) fun e w' => e = .returned (.int .i64 (sz : Nat)) ∧ w' = wc.drewN r) := Lib.hid (fun r => (SZ.out _ (below_drewN (Below.refl _ _) r)).mono fun _ _ ⟨h1, h2⟩ => ⟨h1, h2.symm⟩)
                      clear hn2 hv2' hquo hQ0 hq
                      go_quiet ((go_at_call 28; exact Calls.quiet_of_same (SQ.out _)))
                      all_goals
                        go_wp2_with fail
                        go_meet
                        exact ⟨rfl, bel2' hboc (below_drewN (Below.refl _ _) _)⟩
                  case rest =>
                    obtain ⟨rfl, hbz⟩ := hcut
                    have hOz := hOr.out.keep hbz
                    have hput := (hOz.put x false).1
                    have gfz := hOz.free x
                    have gcz := hOz.cell hxk
                    clear hOz
                    go_wp2_with fail
                    go_roundw
                    case rel => exact ⟨i + 1, rem.set x false, by omega, by go_num, hput, hnx, (hOff.out.go hbz).set x (.bool false)⟩
                    case measure => simp [intOf] <;> omega
      · as_aux_lemma =>
          obtain ⟨pa, ca, pl1, cl1, pl2, cl2, pb, nb, cb, pq1, nq1, cq1, pq2, nq2, cq2, pe1, ne1, ce1, pe2, ne2, ce2, ps1, ns1, cs1, ps2, ns2, cs2, pl3, nl3, cl3, rfl, rfl, rfl, rfl, rfl, rfl, rfl, rfl, rfl, rfl, rfl⟩ := rndv_sn (n1 := 0) (n2 := 1) V1 F.out.len (by rw [he]; rfl) (by rw [hx]; rfl)
          have V1 := Lib.hid V1
          obtain ⟨c0r, c1r, c2r, c3r, c4r, c5r, c6r, c7r, c8r, c9r, c10r, c11r, c12r, c13r⟩ := C1
          have qk : ((k : Int) != (k : Int)) = false := by simp
          have FX : Hid (∀ wq, Below wr.heap.size wr wq → Calls Try.prog 24 #[.agg #[.bool false, .slice pe1 ne1 ce1, .slice pe2 ne2 ce2]] wq (GivesN M wq)) := Lib.hid (fun wq h => by
            have := wfrom_f (V1.out.h.exh.keep h)
            rwa [hM] at this)
          have BX : Below wr.heap.size wr (wr.alloc (.cells #[.slice pa k ca, .slice pb nb cb, .bool false, .slice pq1 nq1 cq1, .slice pq2 nq2 cq2, .bool false, .slice pe1 ne1 ce1, .slice pe2 ne2 ce2, .bool false, .slice ps1 ns1 cs1, .slice ps2 ns2 cs2, .slice pl1 0 cl1, .slice pl2 1 cl2, .slice pl3 nl3 cl3] 54)) := below_al (Below.refl _ _) _
          have KX0 := Lib.hid (Blk.new wr #[.slice pa k ca, .slice pb nb cb, .bool false, .slice pq1 nq1 cq1, .slice pq2 nq2 cq2, .bool false, .slice pe1 ne1 ce1, .slice pe2 ne2 ce2, .bool false, .slice ps1 ns1 cs1, .slice ps2 ns2 cs2, .slice pl1 0 cl1, .slice pl2 1 cl2, .slice pl3 nl3 cl3] 54)
          clear hM hex
          go_wp2_with (first
            | (go_at_call 24; ((with_reducible refine (FX.out _ BX).mono ?_); rintro _ w20 ⟨pA, lA, kA, pB, lB, kB, rfl, hA0, hb20⟩)))
          have KS := Lib.hid (Blk.new w20 #[.bool false, .slice pA lA kA, .slice pB lB kB] 57)
          have b20 := bel2' BX hb20
          have b21 : Below wr.heap.size wr (w20.alloc (.cells #[.bool false, .slice pA lA kA, .slice pB lB kB] 57)) := below_al b20 _
          have hA := hA0.at.keep (below_al (Below.refl _ _) (.cells #[.bool false, .slice pA lA kA, .slice pB lB kB] 57))
          have KX := Lib.hid ((KX0.out.keep hb20).alloc (.cells #[.bool false, .slice pA lA kA, .slice pB lB kB] 57))
          obtain ⟨W1, hW1⟩ : ∃ W, w20.alloc (.cells #[.bool false, .slice pA lA kA, .slice pB lB kB] 57) = W := ⟨_, rfl⟩
          have hXs : wr.heap.size < w20.heap.size := by have := hb20.size; simp at this; omega
          obtain ⟨S, hS⟩ : ∃ S, w20.heap.size = S := ⟨_, rfl⟩
          obtain ⟨X, hX⟩ : ∃ X, wr.heap.size = X := ⟨_, rfl⟩
          rw [hW1] at KS KX hA b21 ⊢
          rw [hS] at KS hXs ⊢
          rw [hX] at KX hXs ⊢
          have HXE := Lib.hid hX
          have hA := Lib.hid hA
          have b21 := Lib.hid b21
          clear hW1 hS hX BX hb20 b20 FX KX0 hA0
          have XK : Hid (∀ W', Below W1.heap.size W1 W' → W'.cell? ⟨X, 11, none⟩ = some (.slice pl1 0 cl1) ∧ W'.cell? ⟨X, 12, none⟩ = some (.slice pl2 1 cl2)) := Lib.hid (fun W' h => ⟨(KX.out.keep h).2.1 11, (KX.out.keep h).2.1 12⟩)
          have BD : Below W1.heap.size W1 W1.drew := (Below.refl _ _).drew
          have HEL : Hid (∀ W', Below W1.heap.size W1 W' → IntsAt W' (.slice pl1 0 cl1) ([] : List Int)) := Lib.hid (fun W' h => by have := V1.out.el.keep (bel2' b21.out h); rwa [he] at this)
          have HEX : Hid (∀ W', Below W1.heap.size W1 W' → IntsAt W' (.slice pl2 1 cl2) [(x : Int)]) := Lib.hid (fun W' h => by have := V1.out.ex.keep (bel2' b21.out h); rwa [hx] at this)
          go_cut [16] (fun s16 wx => s16 = .int .i64 x ∧ Below W1.heap.size W1 wx)
          case first =>
            obtain ⟨x11, x12⟩ := XK.out _ BD
            go_region_law (first
              | (refine step_append_read erI (by rfl) (by rfl) hown31 (by rfl) (xv := .slice pl2 1 cl2) (HEX.out _ hb31) (by rfl) (ints_one [(x : Int)]) (by simp) (by simp) hc31.size ?_; intro v32 w32 hown32 hc32; have hb32 : Below W1.heap.size W1 w32 := hb31.trans hc32; obtain ⟨bz, oz, cz, rfl, hcz⟩ := app_fin hown32 (by rfl); clear hown32)
              | (refine step_append_read erI (by rfl) (by rfl) (World.ownsRow_nil _ _ _ _) (by rfl) (xv := .slice pl1 0 cl1) (HEL.out _ BD) (by rfl) (ints_one ([] : List Int)) (by simp) (by simp) (Nat.le_refl _) ?_; intro v31 w31 hown31 hc31; have hb31 : Below W1.heap.size W1 w31 := BD.trans hc31; obtain ⟨y11, y12⟩ := XK.out _ hb31))
            all_goals
              go_wp2_with fail
              go_meet
              exact ⟨rfl, hb32⟩
          case rest =>
            obtain ⟨rfl, hb33⟩ := hcut
            obtain ⟨wo, rfl⟩ : ∃ x, x = wr := ⟨_, rfl⟩
            have bw := bel2' b21.out hb33
            have KXc := KX.out.keep hb33
            have KSc := Lib.hid (KS.out.keep hb33)
            have x0c : wc.cell? ⟨X, 0, none⟩ = some (.slice pa k ca) := KXc.2.1 0
            have rxc := cell_keep bw hRX
            have hAc := hA.out.keep hb33
            obtain ⟨gb, go, pC, lC, kC, pD, lD, kD, ev, hv1, hv2, hr1, hr2, cv0, cv1, cv2⟩ := (V1.out.h.votes.keep bw).cellsAt (k := x) (by rw [wholes_len, F.out.len]; exact hxk) (whole_get (by rw [F.out.len]; exact hxk))
            subst ev
            rw [wholes_len, F.out.len] at hv1
            obtain ⟨vx, hvx⟩ : ∃ n, (r.votes.getD x 0).toNat = n := ⟨_, rfl⟩
            have FV : Hid (Calls Try.prog 24 #[.agg #[.bool false, .slice pC lC kC, .slice pD lD kD]] wc (GivesN vx wc)) := Lib.hid (by
              have := wfrom_f (x := r.votes.getD x 0) ⟨_, _, _, _, _, _, rfl, hr1, hr2⟩
              rwa [hvx] at this)
            have HVX := Lib.hid hvx
            have KXc := Lib.hid KXc
            have hSW : S < wc.heap.size := KSc.out.1
            have bw := Lib.hid bw
            clear hvx hr1 hr2 KS KX XK BD HEL HEX hA b21 hb33
            go_wp2_with (first
              | (go_at_call 24; ((with_reducible refine FV.out.mono ?_); rintro _ w40 ⟨pE, lE, kE, pF, lF, kF, rfl, hV, hb40⟩)))
            have KV := Blk.new w40 #[.bool false, .slice pE lE kE, .slice pF lF kF] 57
            have b42 : Below wc.heap.size wc (w40.alloc (.cells #[.bool false, .slice pE lE kE, .slice pF lF kF] 57)) := below_al hb40 _
            have hV := hV.keep (below_al (Below.refl _ _) (.cells #[.bool false, .slice pE lE kE, .slice pF lF kF] 57))
            have hVw : S < w40.heap.size := Nat.lt_of_lt_of_le hSW hb40.size
            obtain ⟨W2, hW2⟩ : ∃ W, w40.alloc (.cells #[.bool false, .slice pE lE kE, .slice pF lF kF] 57) = W := ⟨_, rfl⟩
            obtain ⟨V, hVV⟩ : ∃ V, w40.heap.size = V := ⟨_, rfl⟩
            rw [hW2] at KV b42 hV ⊢
            rw [hVV] at KV hVw ⊢
            have KV := Lib.hid KV
            have hV := Lib.hid hV
            have KS2 := KSc.out.keep b42
            have KX2 := Lib.hid (KXc.out.keep b42)
            have hA2 := Lib.hid (hAc.keep b42)
            have bw2 := Lib.hid (bel2' bw.out b42)
            have hW2s := KS2.1
            clear hW2 hVV FV hb40 hAc KXc KSc b42 x0c rxc cv0 cv1 cv2
            go_loopw [18] (fun iv wq => ∃ (j : Nat) (pS : Option Addr) (lS kS : Nat) (pT : Option Addr) (lT kT : Nat), j ≤ k ∧ iv = .int .i64 j ∧ Blk S #[.bool false, .slice pS lS kS, .slice pT lT kT] wq ∧ Hid (WAt wq pS lS kS pT lT kT (psum r j)) ∧ OffB S W2 wq) (fun iv _ => k - (intOf iv).toNat)
            case atStart => exact ⟨0, _, _, _, _, _, _, by omega, rfl, KS2, by rw [hM0]; exact hA2, OffB.refl _ _⟩
            case round =>
              obtain ⟨j, pS, lS, kS, pT, lT, kT, hj, rfl, hS, hAj, hO2⟩ := hrel
              have hbo : Below wo.heap.size wo wr := hO2.bel bw2.out (by rw [HXE.out]; omega) bw2.out.size
              have hXS : X ≠ S := by omega
              have x0r : wr.cell? ⟨X, 0, none⟩ = some (.slice (some ⟨gb, go, none⟩) k ca) := (hO2.blk KX2.out hXS).2.1 0
              by_cases hjt : j < k
              · have hjz : (j : Int) < (k : Int) := by omega
                obtain ⟨gb', go', pG, lG, kG, pH, lH, kH, ev, _, _, hr1, hr2, cv0, cv1, cv2⟩ := (V1.out.h.votes.keep hbo).cellsAt (k := j) (by rw [wholes_len, F.out.len]; exact hjt) (whole_get (by rw [F.out.len]; exact hjt))
                simp only [Option.some.injEq, Addr.mk.injEq, and_true] at ev
                obtain ⟨rfl, rfl⟩ := ev
                obtain ⟨vy, hvy⟩ : ∃ n, (r.votes.getD j 0).toNat = n := ⟨_, rfl⟩
                have FY : Hid (Calls Try.prog 24 #[.agg #[.bool false, .slice pG lG kG, .slice pH lH kH]] wr (GivesN vy wr)) := Lib.hid (by
                  have := wfrom_f (x := r.votes.getD j 0) ⟨_, _, _, _, _, _, rfl, hr1, hr2⟩
                  rwa [hvy] at this)
                have hps := psum_step F.out hjt
                rw [hvy] at hps
                have hpl := psum_le F.out hj
                have hpl2 := psum_le F.out (show j + 1 ≤ k by omega)
                have AD : Hid (∀ {p1 p2 p3 p4 : Option Addr} {l1 k1 l2 k2 l3 k3 l4 k4 : Nat} {wq : World}, WAt wq p1 l1 k1 p2 l2 k2 (psum r j) → WAt wq p3 l3 k3 p4 l4 k4 vy → Calls Try.prog 25 #[.agg #[.bool false, .slice p1 l1 k1, .slice p2 l2 k2], .agg #[.bool false, .slice p3 l3 k3, .slice p4 l4 k4]] wq (GivesN (psum r (j + 1)) wq)) := Lib.hid (fun h1 h2 => by
                  have := wadd_f h1 h2 (by omega) (by omega)
                  rwa [← hps] at this)
                have HS := Lib.hid hS
                have HVY := Lib.hid hvy
                have HPS := Lib.hid (And.intro hps (And.intro hpl hpl2))
                clear hr1 hr2 hvy hps hpl hpl2 hS
                go_upto_region 25 with (first
                  | (go_at_call 24; ((with_reducible refine FY.out.mono ?_); rintro _ w50 ⟨pI, lI, kI, pJ, lJ, kJ, rfl, hY, hb50⟩; have B5 : Below wr.heap.size wr (w50.alloc (.cells #[.bool false, .slice pI lI kI, .slice pJ lJ kJ] 57)) := below_al hb50 _; have K5 := HS.out.keep B5; have s0 := K5.2.1 0; have s1 := K5.2.1 1; have s2 := K5.2.1 2; simp only [List.getElem?_toArray, List.getElem?_cons_zero, List.getElem?_cons_succ] at s0 s1 s2))
                  | (go_at_call 25; ((with_reducible refine (AD.out (hAj.out.keep B5) (hY.at.keep (below_al (Below.refl _ _) _))).mono ?_); rintro _ w51 ⟨pK, lK, kK, pL, lL, kL, rfl, hK, hb51⟩; have K6 := K5.keep hb51; have f0 := K6.2.2 0; have f1 := K6.2.2 1; have f2 := K6.2.2 2; have g0 := K6.2.1 0; have g1 := K6.2.1 1; have g2 := K6.2.1 2; simp only [List.getElem?_toArray, List.getElem?_cons_zero, List.getElem?_cons_succ] at g0 g1 g2)))
                have hO6 := ((hO2.go B5).go hb51).set3 (.bool false) (.slice pK lK kK) (.slice pL lL kL)
                have K7 := blk3 K6 (.bool false) (.slice pK lK kK) (.slice pL lL kL)
                have hS5 : S < (w50.alloc (.cells #[.bool false, .slice pI lI kI, .slice pJ lJ kJ] 57)).heap.size := K5.1
                have hK7 := Lib.hid (hK.off hS5 ((OffB.refl S w51).set3 (.bool false) (.slice pK lK kK) (.slice pL lL kL))).at
                obtain ⟨W6, hW6⟩ : ∃ W, (((w51.setCell ⟨S, 0, none⟩ (.bool false)).setCell ⟨S, 1, none⟩ (.slice pK lK kK)).setCell ⟨S, 2, none⟩ (.slice pL lL kL)) = W := ⟨_, rfl⟩
                rw [hW6] at hO6 K7 hK7 ⊢
                have hbo6 : Below wo.heap.size wo W6 := hO6.bel bw2.out (by rw [HXE.out]; omega) bw2.out.size
                have rX := (hOr.out.keep hbo6).cell hjt
                have x12 : W6.cell? ⟨X, 12, none⟩ = some (.slice pl2 1 cl2) := (hO6.blk KX2.out hXS).2.1 12
                have K7 := Lib.hid K7
                have HO6 := Lib.hid hO6
                have hSr : S < wr.heap.size := HS.out.1
                have HYY := Lib.hid (((hY.keep (below_al (Below.refl _ _) _)).keep hb51).off hSr ((OffB.refl S w51).set3 (.bool false) (.slice pK lK kK) (.slice pL lL kL))).at
                have hYS : w50.heap.size ≠ S := by have := hb50.size; omega
                have KY := Lib.hid (((OffB.refl S w51).set3 (.bool false) (.slice pK lK kK) (.slice pL lL kL)).blk ((Blk.new w50 #[.bool false, .slice pI lI kI, .slice pJ lJ kJ] 57).keep hb51) hYS)
                rw [hW6] at HYY KY
                have KVV := Lib.hid (HO6.out.blk KV.out (show V ≠ S by omega))
                have HVV := Lib.hid (hV.out.off hSW HO6.out).at
                clear hW6 hO6 hbo6 K5 K6 s0 s1 s2 f0 f1 f2 g0 g1 g2 hb51 hK hS5 hY hb50 cv0 cv1 cv2 B5
                cases hbj : rem.getD j false
                all_goals rw [hbj] at rX
                · go_wp2_with fail
                  go_roundw
                  case rel => exact ⟨j + 1, _, _, _, _, _, _, by omega, by go_num, K7.out, hK7, HO6.out⟩
                  case measure => simp [intOf] <;> omega
                · have hrj : rem[j]? = some true := getD_true hbj
                  have hle := hlow j hrj
                  have hn1 := F.out.nn _ (getD_mem (l := r.votes) (j := j) (by rw [F.out.len]; exact hjt))
                  have hn2 := F.out.nn _ (getD_mem (l := r.votes) (j := x) (by rw [F.out.len]; exact hxk))
                  have hv1' := HVY.out
                  have hv2' := HVX.out
                  obtain ⟨cz, hcz⟩ : ∃ c, cmpI (vy : Int) (vx : Int) = c := ⟨_, rfl⟩
                  have hcn : ¬ cz < 0 := by rw [← hcz]; unfold cmpI; repeat (first | split | omega)
                  have CM : Hid (Calls Try.prog 26 #[.agg #[.bool false, .slice pI lI kI, .slice pJ lJ kJ], .agg #[.bool false, .slice pE lE kE, .slice pF lF kF]] W6 fun e w' => e = .returned (.int .i64 cz) ∧ Below W6.heap.size W6 w') := Lib.hid (by
                    have := wcmp_c HYY.out HVV.out (by omega) (by omega)
                    rwa [hcz] at this)
                  obtain ⟨z0, z1, z2⟩ := cells3 KY.out
                  obtain ⟨v0, v1, v2⟩ := cells3 KVV.out
                  clear hcz hle hn1 hn2 hv1' hv2' hrj
                  go_wp2_with (first
                    | (go_at_call 26; ((with_reducible refine CM.out.mono ?_); rintro _ w60 ⟨rfl, hb60⟩)))
                  go_roundw
                  case rel => exact ⟨j + 1, _, _, _, _, _, _, by omega, by go_num, K7.out.keep hb60, Lib.hid (hK7.out.keep hb60), HO6.out.go hb60⟩
                  case measure => simp [intOf] <;> omega
              · obtain rfl : k = j := by omega
                have hjz : ¬ (k : Int) < (k : Int) := by omega
                have hpa : psum r k = len := by rw [psum_all F.out]; simp
                rw [hpa] at hAj
                have HAJ := Lib.hid hAj.out
                have HS := Lib.hid hS
                have S0 : Hid (∀ W', Below wr.heap.size wr W' → W'.cell? ⟨S, 0, none⟩ = some (.bool false) ∧ W'.cell? ⟨S, 1, none⟩ = some (.slice pS lS kS) ∧ W'.cell? ⟨S, 2, none⟩ = some (.slice pT lT kT)) := Lib.hid (fun W' h => cells3 (HS.out.keep h))
                have OF := Lib.hid (fun wq => wof_c len (by omega) wq)
                have CM : Hid (∀ {p1 p2 p3 p4 : Option Addr} {l1 k1 l2 k2 l3 k3 l4 k4 : Nat} {wq : World}, WAt wq p1 l1 k1 p2 l2 k2 len → WAt wq p3 l3 k3 p4 l4 k4 len → Calls Try.prog 26 #[.agg #[.bool false, .slice p1 l1 k1, .slice p2 l2 k2], .agg #[.bool false, .slice p3 l3 k3, .slice p4 l4 k4]] wq fun e w' => e = .returned (.int .i64 0) ∧ Below wq.heap.size wq w') := Lib.hid (fun h1 h2 => by
                  have := wcmp_c h1 h2 (by omega) (by omega)
                  rwa [show cmpI (len : Int) (len : Int) = 0 by unfold cmpI; rw [if_neg (by omega), if_neg (by omega)]] at this)
                have BD : Below wr.heap.size wr wr.drew := (Below.refl _ _).drew
                clear hpa hAj hS
                go_wp2_with fail
                go_cut [151] (fun s151 wx => s151 = .bool false ∧ Below wr.heap.size wr wx)
                case first =>
                  go_region_held3 (fun W' => W'.cell? ⟨S, 0, none⟩ = some (.bool false) ∧ W'.cell? ⟨S, 1, none⟩ = some (.slice pS lS kS) ∧ W'.cell? ⟨S, 2, none⟩ = some (.slice pT lT kT))
                    (first | with_reducible exact S0.out _ b71 | with_reducible exact S0.out _ b70 | with_reducible exact S0.out _ BD)
                    (first
                      | (go_at_call 27; ((with_reducible refine (OF.out _).mono ?_); rintro _ w70 ⟨pM, lM, kM, pN, lN, kN, rfl, hL7, hb70⟩; have b70 := bel2' BD hb70))
                      | (go_at_call 26; ((with_reducible refine (CM.out (HAJ.out.keep b70) hL7).mono ?_); rintro _ w71 ⟨rfl, hb71⟩; have b71 := bel2' b70 hb71)))
                  all_goals
                    go_wp2_with fail
                    go_meet
                    exact ⟨rfl, b71⟩
                case rest =>
                  obtain ⟨rfl, hb151⟩ := hcut
                  have hboc := bel2' hbo hb151
                  have hX29 := (hO2.blk KX2.out hXS).keep hb151
                  have x11 : wc.cell? ⟨X, 11, none⟩ = some (.slice pl1 0 cl1) := hX29.2.1 11
                  have BD : Below wc.heap.size wc wc.drew := (Below.refl _ _).drew
                  clear hX29 OF CM HAJ S0
                  go_wp2_with fail
                  go_cut [168] (fun s168 wx => s168 = .bool false ∧ Below wo.heap.size wo wx)
                  case first =>
                    go_quiet (fail)
                    all_goals
                      go_wp2_with fail
                      go_meet
                      exact ⟨rfl, bel2' hboc (below_drewN (Below.refl _ _) _)⟩
                  case rest =>
                    obtain ⟨rfl, hbz⟩ := hcut
                    have hOz := hOr.out.keep hbz
                    have hput := (hOz.put x false).1
                    have gfz := hOz.free x
                    have gcz := hOz.cell hxk
                    clear hOz
                    go_wp2_with fail
                    go_roundw
                    case rel => exact ⟨i + 1, rem.set x false, by omega, by go_num, hput, hnx, (hOff.out.go hbz).set x (.bool false)⟩
                    case measure => simp [intOf] <;> omega
    · obtain rfl : nr0 = i := by omega
      have hltz : ¬ (nr0 : Int) < (nr0 : Int) := by omega
      obtain ⟨r, m, hm, hr, hel⟩ := last_at hwin.out HNR.out
      obtain ⟨g, off, a, b, q1, q2, e1, e2, s1, s2, l1, l2, l3, e4, en1, hc3, hc4, V1, C1⟩ := rnd_at (H7.out.keep hbr) hr
      subst e4
      rw [HNR.out] at hc3
      obtain ⟨pe, ce, ee⟩ := V1.el.shape
      rw [hel] at ee
      subst ee
      obtain ⟨c0r, c1r, c2r, c3r, c4r, c5r, c6r, c7r, c8r, c9r, c10r, c11r, c12r, c13r⟩ := C1
      have c11 : wr.cell? ⟨g, off + m * 14 + 11, none⟩ = some (.slice pe 1 ce) := c11r
      have ewr : IntKind.i64.wrap ((nr0 : Int) - 1) = (m : Int) := by rw [show ((nr0 : Int) - 1) = m by omega]; exact w64 (by omega) (by omega)
      have hm0 : ¬ (m : Int) < 0 := by omega
      have hmn : ¬ (nr0 : Int) ≤ (m : Int) := by omega
      have hmn2 : (m : Int) < (nr0 : Int) := by omega
      have BW : Hid (Below w.heap.size w wr) := Lib.hid (hOff.bel b8.out (by omega) b8.out.size)
      clear hm hel en1 V1 c0r c1r c2r c3r c4r c5r c6r c7r c8r c9r c10r c11r c12r c13r hOff hOr hCI
      go_wp2_with (first
        | (go_at_call 12; ((with_reducible refine (awake26 _).mono ?_); rintro _ w90 ⟨rfl, hb90⟩; have t4x := cell_keep hb90 t4r; have c11x := cell_keep hb90 c11)))
      go_ret
      exact ⟨rfl, bel2' BW.out hb90⟩
end Go.Proofs.Ytbnhgmikegdppaa

namespace Go.Proofs.Ytbnhgmikegdppaa.irvSums
open Go.ChangeShapes Go.WideShapes Go.ChangeAt Go.RowKit
open Go.ChangeMaps (open_string shut_string)

theorem own : ownKnob Try.prog.godebug = none := by kernel_rfl
theorem laidOut : laidOutB Try.prog = true := by kernel_rfl

set_option maxRecDepth 100000 in
theorem lifted (os : Os) (started : os.Started) (H : Type) (enc : TypeId × Value → H) :
    ReturnsInHanded {} Try.checked os 4 .any (Rows.irvSumsSpec.pre6 enc Try.prog Try.f4 Rows.irvSumsRow.domain false) (Rows.irvSumsSpec.post enc Try.prog Try.f4 false true false false) := by
  refine returnsInHanded_of_change (C := Try.checked) own started (by kernel_rfl) Try.func4
    (ChangeSpec.witness6 (enc := enc) (C := Try.checked) false ⟨#[], #[.int .i64 0, .int .i64 0, .int .i64 0, .slice none 0 0], []⟩ 8 (by kernel_rfl) (by kernel_rfl) (by kernel_rfl) (by kernel_rfl)) ?_
  intro W base args ds gs before hval0 hW hcnd _
  have hval := hval0
  have hW' := hW
  obtain ⟨p, q, hA0, hV, rfl, hfz, hnd⟩ := hW
  have hA : DataW.TrodAll enc Try.prog W 0 (fun _ => true) true Try.f4.params.toList args.toList ds p := hA0
  rw [Try.params4] at hA hval
  obtain ⟨v0, vs0, d0, ds0, p0, q0, hargs, rfl, rfl, h0, r0⟩ := trodAll_cons hA
  obtain ⟨v1, vs1, d1, ds1, p1, q1, rfl, rfl, rfl, h1, r1⟩ := trodAll_cons r0
  obtain ⟨v2, vs2, d2, ds2, p2, q2, rfl, rfl, rfl, h2, r2⟩ := trodAll_cons r1
  obtain ⟨v3, vs3, d3, ds3, p3, q3, rfl, rfl, rfl, h3, r3⟩ := trodAll_cons r2
  obtain ⟨rfl, rfl, rfl⟩ := trodAll_nil r3
  obtain rfl : args = #[v0, v1, v2, v3] := by cases args; simp_all
  obtain ⟨rfl, rfl⟩ := trodVars_none hV
  obtain ⟨a0, rfl, rfl, rfl, w0⟩ := open_int Try.underlying3 (hval 0 3 v0 rfl rfl) h0
  obtain ⟨a1, rfl, rfl, rfl, w1⟩ := open_int Try.underlying3 (hval 1 3 v1 rfl rfl) h1
  have wf1 := w1
  simp [Lit.wf] at wf1
  have lo1 : IntKind.i64.min = -9223372036854775808 := by decide
  have hi1 : IntKind.i64.max = 9223372036854775807 := by decide
  obtain ⟨a2, rfl, rfl, rfl, w2⟩ := open_int Try.underlying3 (hval 2 3 v2 rfl rfl) h2
  have lt3 : ∀ x ∈ p3, x.block < W.heap.size := by obtain ⟨m, hm⟩ := h3; exact DataW.trod_lt m _ _ _ hm
  obtain ⟨l3, n3⟩ := grid_open (hval 3 23 v3 rfl rfl) h3
  clear hA0 hval0
  refine (walk_IrvSums a0 a1 (by omega) (by omega) a2 n3).mono fun e W' ⟨he, bel⟩ => ?_
  subst he
  exact ⟨_, rfl, _, _, _, [], _, [], hW', trodAll_mk1 (shut_bool Try.underlying4 _), (trodAll_cons_mk (shut_int Try.underlying3 w0) (trodAll_cons_mk (shut_int Try.underlying3 w1) (trodAll_cons_mk (shut_int Try.underlying3 w2) (trodAll_cons_mk (Below.trod laidOut (by kernel_rfl) (of_decide_eq_true (by kernel_rfl)) h3 bel lt3) trodAll_mk0)))), rfl, bel.frame _, fun h => by cases h⟩

theorem over : Rows.irvSumsRow.holds Try.pinned (OpenSpec.ofChange Rows.irvSumsSpec) :=
  OpenClaim.holds_of_wide 4 Try.f4 rfl rfl rfl rfl rfl rfl rfl ⟨rfl, rfl, rfl, rfl, rfl⟩ rfl rfl rfl rfl rfl (by kernel_rfl) Try.func4 (by kernel_rfl)
    (of_decide_eq_true (by kernel_rfl)) (by unfold Func.isWrapper; first | (rw [if_pos (by decide +kernel)]; kernel_rfl) | (rw [if_neg (by decide +kernel)]; exact ⟨rfl, rfl⟩))
    (fun os started H enc _ => lifted os started H enc)

end Go.Proofs.Ytbnhgmikegdppaa.irvSums
namespace Go.Proofs.Ytbnhgmikegdppaa
/-- IrvSums: the given statement. -/
theorem irvSums_proved : Rows.IrvSumsSaid := irvSums.over
#print axioms irvSums_proved
end Go.Proofs.Ytbnhgmikegdppaa
