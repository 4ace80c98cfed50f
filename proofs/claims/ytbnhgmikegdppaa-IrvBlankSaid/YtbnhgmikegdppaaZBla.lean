/- The statement IrvBlank: for every input the law returns true and its arguments read as before. No condition. -/
import Derived.Test.YtbnhgmikegdppaaQO
import Derived.Deep.DeepCutAuto
import Derived.WalkKit
import Derived.ProofKit
import Derived.OpenShut
import Derived.ShutString
import Derived.ChangeOld
import Derived.Below
namespace Go.Proofs.Ytbnhgmikegdppaa
open Go.RowKit Go.Proofs.Kit Go.Proofs.Nums

set_option maxHeartbeats 4000000 in
theorem rfrom_r {v : Value} {q : Q} {L : Nat} {w : World} (h : RatAt w v q L) (hL : L ≤ 1000) :
    Calls Try.prog 24 #[v] w fun e w' => ∃ v', e = .returned v' ∧ RFr w' v' q.norm w.heap.size ∧ Below w.heap.size w w' := by
  obtain ⟨p1, l1, k1, p2, l2, k2, rfl, hn, hd⟩ := h.shape
  obtain ⟨neg, n, d⟩ := q
  have FN : Hid (∀ w', Below w.heap.size w w' → Calls Try.prog 55 #[.slice p1 l1 k1] w' fun e w'' => ∃ v', e = .returned v' ∧ BitAt w'' v' (bitsN n) ∧ Below w'.heap.size w' w'') := Lib.hid (fun w' hb => from_n (hn.keep hb) hL)
  have FD : Hid (∀ w', Below w.heap.size w w' → Calls Try.prog 55 #[.slice p2 l2 k2] w' fun e w'' => ∃ v', e = .returned v' ∧ BitAt w'' v' (bitsN d) ∧ Below w'.heap.size w' w'') := Lib.hid (fun w' hb => from_n (hd.keep hb) hL)
  have NM : Hid (∀ va vb w, BitAt w va (bitsN n) → BitAt w vb (bitsN d) → Calls Try.prog 54 #[.bool neg, va, vb] w fun e w' => ∃ v, e = .returned v ∧ RFr w' v (Q.mk' neg n d) w.heap.size ∧ Below w.heap.size w w') := Lib.hid (fun va vb w h h' => rnorm_r h h' (Nat.le_trans (num_bits hn) (by omega)) (Nat.le_trans (num_bits hd) (by omega)))
  clear hn hd h
  have hnorm : Q.norm ⟨neg, n, d⟩ = Q.mk' neg n d := rfl
  rw [hnorm]
  clear hnorm
  have b0 := ((Blk.new w #[.bool neg, .slice p1 l1 k1, .slice p2 l2 k2] 52).alloc (.cells #[.bool false, .slice none 0 0, .slice none 0 0] 57)).drew
  have b1 := (Blk.new (w.alloc (.cells #[.bool neg, .slice p1 l1 k1, .slice p2 l2 k2] 52)) #[.bool false, .slice none 0 0, .slice none 0 0] 57).drew
  rw [World.size_alloc] at b1
  have hBd : Below w.heap.size w ((w.alloc (.cells #[.bool neg, .slice p1 l1 k1, .slice p2 l2 k2] 52)).alloc (.cells #[.bool false, .slice none 0 0, .slice none 0 0] 57)).drew := (((Below.refl _ _).alloc (Nat.le_refl _) _).alloc (by simp) _).drew
  have hsz : w.heap.size + 2 ≤ ((w.alloc (.cells #[.bool neg, .slice p1 l1 k1, .slice p2 l2 k2] 52)).alloc (.cells #[.bool false, .slice none 0 0, .slice none 0 0] 57)).drew.heap.size := by simp
  go_enter Try.func24, Try.ntmps24
  go_wp2_with fail
  revert b0 b1 hBd hsz
  generalize ((w.alloc (.cells #[.bool neg, .slice p1 l1 k1, .slice p2 l2 k2] 52)).alloc (.cells #[.bool false, .slice none 0 0, .slice none 0 0] 57)) = W
  intro b0 b1 hBd hsz
  have B0 := Lib.hid b0
  have B1 := Lib.hid b1
  obtain ⟨c0, c1, c2⟩ := b0.three
  clear b0 b1
  go_region_with (first
    | (go_at_call 55; ((with_reducible refine (FN.out _ hBd).mono ?_); rintro e w3 ⟨v3, rfl, hv3, hb3⟩; have hB3 := bel2' hBd hb3; have B03 := Lib.hid (B0.out.keep hb3); have B13 := Lib.hid (B1.out.keep hb3); obtain ⟨d0, d1, d2⟩ := B03.out.three))
    | (go_at_call 55; ((with_reducible refine (FD.out _ hB3).mono ?_); rintro e w4 ⟨v4, rfl, hv4, hb4⟩; have hB4 := bel2' hB3 hb4; have B04 := Lib.hid (B03.out.keep hb4); have B14 := Lib.hid (B13.out.keep hb4); obtain ⟨e0, e1, e2⟩ := B04.out.three; have hv34 := hv3.keep hb4))
    | (go_at_call 54; ((with_reducible refine (NM.out _ _ _ hv34 hv4).mono ?_); rintro e w5 ⟨v5, rfl, hv5, hb5⟩; have hB5 := bel2' hB4 hb5; obtain ⟨x1, y1, z1, x2, y2, z2, rfl, g1, g2, g3, g4⟩ := hv5.shape; have B15 := Lib.hid (B14.out.keep hb5); obtain ⟨k0, k1', k2'⟩ := B15.out.three; obtain ⟨f0, f1, f2⟩ := B15.out.free3)))
  all_goals
    go_wp2_with fail
    refine bodyPost_ret (v := .agg #[.bool (Q.mk' neg n d).neg, .slice x1 y1 z1, .slice x2 y2 z2]) (by simp [results, Try.results24, go_sem, k0, k1', k2']) rfl ?_
    have hz5 : w.heap.size + 2 ≤ w4.heap.size := Nat.le_trans hsz (Nat.le_trans hb3.size hb4.size)
    exact ⟨_, rfl, retR hB5 (by omega) ⟨_, _, rfl, g1, g2, g3.mono (by omega), g4.mono (by omega)⟩⟩


end Go.Proofs.Ytbnhgmikegdppaa

namespace Go.Proofs.Ytbnhgmikegdppaa
open Go.RowKit Go.Proofs.Kit Go.Proofs.Nums

set_option maxRecDepth 100000 in
set_option maxHeartbeats 8000000 in
theorem radd_r {va vb : Value} {a b : Q} {w : World} (ha : RAt w va a) (hb : RAt w vb b) (sa : a.Sz 10000) (sb : b.Sz 10000) :
    Calls Try.prog 25 #[va, vb] w fun e w' => ∃ v', e = .returned v' ∧ RFr w' v' (Q.addR a b) w.heap.size ∧ Below w.heap.size w w' := by
  obtain ⟨p1, l1, k1, p2, l2, k2, rfl, hn, hd⟩ := ha.shape
  obtain ⟨p3, l3, k3, p4, l4, k4, rfl, hm, hc⟩ := hb.shape
  obtain ⟨an, n, d⟩ := a
  obtain ⟨bn, m, c⟩ := b
  simp only at hn hd hm hc
  have HN := Lib.hid (fun w' (h : Below w.heap.size w w') => hn.keep h)
  have HD := Lib.hid (fun w' (h : Below w.heap.size w w') => hd.keep h)
  have HM := Lib.hid (fun w' (h : Below w.heap.size w w') => hm.keep h)
  have HC := Lib.hid (fun w' (h : Below w.heap.size w w') => hc.keep h)
  have SA := Lib.hid sa
  have SB := Lib.hid sb
  have lx : Hid ((bitsN (n * c)).length ≤ 20000) := Lib.hid (Nat.le_trans (len_mul sa.1 sb.2) (by omega))
  have ly : Hid ((bitsN (m * d)).length ≤ 20000) := Lib.hid (Nat.le_trans (len_mul sb.1 sa.2) (by omega))
  have lz : Hid ((bitsN (d * c)).length ≤ 20000) := Lib.hid (Nat.le_trans (len_mul sa.2 sb.2) (by omega))
  have MX := Lib.hid (fun w' (h : Below w.heap.size w w') => rmul_b _ _ n c w' (hn.keep h) (hc.keep h) (Nat.le_trans sa.1 (by omega)) (Nat.le_trans sb.2 (by omega)))
  have MY := Lib.hid (fun w' (h : Below w.heap.size w w') => rmul_b _ _ m d w' (hm.keep h) (hd.keep h) (Nat.le_trans sb.1 (by omega)) (Nat.le_trans sa.2 (by omega)))
  have MZ := Lib.hid (fun w' (h : Below w.heap.size w w') => rmul_b _ _ d c w' (hd.keep h) (hc.keep h) (Nat.le_trans sa.2 (by omega)) (Nat.le_trans sb.2 (by omega)))
  have NM : Hid (∀ neg s va vb w, BitAt w va (bitsN s) → BitAt w vb (bitsN (d * c)) → Hid ((bitsN s).length ≤ 40000) → Calls Try.prog 54 #[.bool neg, va, vb] w fun e w' => ∃ v, e = .returned v ∧ RFr w' v (Q.mk' neg s (d * c)) w.heap.size ∧ Below w.heap.size w w') := Lib.hid (fun neg s va vb w h h' hs => rnorm_r h h' hs.out (Nat.le_trans lz.out (by omega)))
  have HADD : Hid (Q.addR ⟨an, n, d⟩ ⟨bn, m, c⟩ = Q.mk' (sumS an (n * c) bn (m * d)).1 (sumS an (n * c) bn (m * d)).2 (d * c)) := Lib.hid rfl
  rw [HADD.out]
  obtain ⟨X, hX⟩ : ∃ X, n * c = X := ⟨_, rfl⟩
  obtain ⟨Y, hY⟩ : ∃ Y, m * d = Y := ⟨_, rfl⟩
  obtain ⟨Z, hZ⟩ : ∃ Z, d * c = Z := ⟨_, rfl⟩
  rw [hX] at lx MX ⊢
  rw [hY] at ly MY ⊢
  rw [hZ] at lz MZ NM ⊢
  have b0 := (((Blk.new w #[.bool an, .slice p1 l1 k1, .slice p2 l2 k2] 57).alloc (.cells #[.bool bn, .slice p3 l3 k3, .slice p4 l4 k4] 57)).alloc (.cells #[.bool false, .slice none 0 0, .slice none 0 0] 57)).drew
  have b1 := ((Blk.new (w.alloc (.cells #[.bool an, .slice p1 l1 k1, .slice p2 l2 k2] 57)) #[.bool bn, .slice p3 l3 k3, .slice p4 l4 k4] 57).alloc (.cells #[.bool false, .slice none 0 0, .slice none 0 0] 57)).drew
  have b2 := (Blk.new ((w.alloc (.cells #[.bool an, .slice p1 l1 k1, .slice p2 l2 k2] 57)).alloc (.cells #[.bool bn, .slice p3 l3 k3, .slice p4 l4 k4] 57)) #[.bool false, .slice none 0 0, .slice none 0 0] 57).drew
  rw [World.size_alloc] at b1
  rw [World.size_alloc, World.size_alloc] at b2
  have hBd : Below w.heap.size w (((w.alloc (.cells #[.bool an, .slice p1 l1 k1, .slice p2 l2 k2] 57)).alloc (.cells #[.bool bn, .slice p3 l3 k3, .slice p4 l4 k4] 57)).alloc (.cells #[.bool false, .slice none 0 0, .slice none 0 0] 57)).drew := ((((Below.refl _ _).alloc (Nat.le_refl _) _).alloc (by simp) _).alloc (by simp; omega) _).drew
  clear hn hd hm hc ha hb sa sb HADD hX hY hZ
  go_enter Try.func25, Try.ntmps25
  go_wp2_with fail
  revert b0 b1 b2 hBd
  generalize ((w.alloc (.cells #[.bool an, .slice p1 l1 k1, .slice p2 l2 k2] 57)).alloc (.cells #[.bool bn, .slice p3 l3 k3, .slice p4 l4 k4] 57)).alloc (.cells #[.bool false, .slice none 0 0, .slice none 0 0] 57) = W
  intro b0 b1 b2 hBd
  have B0 := Lib.hid b0
  have B1 := Lib.hid b1
  have B2 := Lib.hid b2
  have s0 : W.drew.cell? ⟨w.heap.size, 0, none⟩ = some (.bool an) ∧ W.drew.cell? ⟨w.heap.size, 1, none⟩ = some (.slice p1 l1 k1) ∧ W.drew.cell? ⟨w.heap.size, 2, none⟩ = some (.slice p2 l2 k2) ∧ W.drew.cell? ⟨w.heap.size + 1, 0, none⟩ = some (.bool bn) ∧ W.drew.cell? ⟨w.heap.size + 1, 1, none⟩ = some (.slice p3 l3 k3) ∧ W.drew.cell? ⟨w.heap.size + 1, 2, none⟩ = some (.slice p4 l4 k4) :=
    ⟨b0.three.1, b0.three.2.1, b0.three.2.2, b1.three.1, b1.three.2.1, b1.three.2.2⟩
  have S0 := Lib.hid s0
  clear b0 b1 b2 s0
  go_region_held3 (fun w' => w'.cell? ⟨w.heap.size, 0, none⟩ = some (.bool an) ∧ w'.cell? ⟨w.heap.size, 1, none⟩ = some (.slice p1 l1 k1) ∧ w'.cell? ⟨w.heap.size, 2, none⟩ = some (.slice p2 l2 k2) ∧ w'.cell? ⟨w.heap.size + 1, 0, none⟩ = some (.bool bn) ∧ w'.cell? ⟨w.heap.size + 1, 1, none⟩ = some (.slice p3 l3 k3) ∧ w'.cell? ⟨w.heap.size + 1, 2, none⟩ = some (.slice p4 l4 k4))
    (first | exact S0.out | exact S3.out | exact S4.out | exact S5.out)
    (first
      | (go_at_call 56; ((with_reducible refine (MX.out _ hBd).mono ?_); rintro e w3 ⟨v3, rfl, hv3, hb3⟩; have hB3 := bel2' hBd hb3; have S3 := Lib.hid (Below.six hb3 S0.out)))
      | (go_at_call 56; ((with_reducible refine (MY.out _ hB3).mono ?_); rintro e w4 ⟨v4, rfl, hv4, hb4⟩; have hB4 := bel2' hB3 hb4; have S4 := Lib.hid (Below.six hb4 S3.out)))
      | (go_at_call 56; ((with_reducible refine (MZ.out _ hB4).mono ?_); rintro e w5 ⟨v5, rfl, hv5, hb5⟩; have hB5 := bel2' hB4 hb5; have S5 := Lib.hid (Below.six hb5 S4.out); have B2a := Lib.hid (((B2.out.keep hb3).keep hb4).keep hb5); have hX5 := Lib.hid ((hv3.keep hb4).keep hb5); have hY5 := Lib.hid (hv4.keep hb5); have hZ5 := Lib.hid hv5)))
  all_goals
    obtain ⟨g0, g1, g2, g3, g4, g5⟩ := S5.out
    clear hv3 hv4 hv5
    by_cases hs : an = bn
    · have hsb : (an == bn) = true := by rw [hs]; simp
      have e1 : sumS an X bn Y = (an, X + Y) := by unfold sumS; rw [if_pos hs]
      have E1 := Lib.hid e1
      have ls : Hid ((bitsN (X + Y)).length ≤ 40000) := Lib.hid (Nat.le_trans (len_add lx.out ly.out) (by omega))
      have AD := Lib.hid (fun w' (h : Below w5.heap.size w5 w') => radd_b v3 v4 X Y w' (hX5.out.keep h) (hY5.out.keep h) lx ly)
      have hdr := (Below.refl w5.heap.size w5).drew
      obtain ⟨j0, j1, j2, _, _, _⟩ := Below.six hdr S5.out
      clear hs e1
      go_wp2_with fail
      go_region_with (first
        | (go_at_call 57; ((with_reducible refine (AD.out _ hdr).mono ?_); rintro e w6 ⟨v6, rfl, hv6, hb6⟩; have hB6 := bel2' hdr hb6; obtain ⟨o0, o1, o2, _, _, _⟩ := Below.six hB6 S5.out))
        | (go_at_call 54; ((with_reducible refine (NM.out _ _ _ _ _ hv6 (hZ5.out.keep hB6) ls).mono ?_); rintro e w7 ⟨v7, rfl, hv7, hb7⟩; have hB7 := bel2' hB6 hb7; obtain ⟨x1, y1, z1, x2, y2, z2, rfl, f1, f2, f3, f4⟩ := hv7.shape; have B2b := Lib.hid (B2a.out.keep hB7); obtain ⟨m0, m1, m2⟩ := B2b.out.three; obtain ⟨t0, t1, t2⟩ := B2b.out.free3)))
      all_goals
        go_wp2_with fail
        refine bodyPost_ret (v := .agg #[.bool (Q.mk' an (X + Y) Z).neg, .slice x1 y1 z1, .slice x2 y2 z2]) (by simp [results, Try.results25, go_sem, m0, m1, m2]) rfl ?_
        have hz6 : w.heap.size + 1 + 1 + 1 ≤ w6.heap.size := Nat.le_trans (Nat.succ_le_of_lt B2a.out.1) hB6.size
        refine ⟨_, rfl, ?_⟩
        rw [E1.out]
        exact retR (bel2' hB5 hB7) (by omega) ⟨_, _, rfl, f1, f2, f3.mono hz6, f4.mono hz6⟩
    · have hsb : (an == bn) = false := by rw [beq_eq_false_iff_ne]; exact hs
      rcases Nat.lt_or_ge X Y with hxy | hxy
      · have e1 : sumS an X bn Y = (bn, Y - X) := by unfold sumS; rw [if_neg hs, if_neg (by omega)]
        have E1 := Lib.hid e1
        have ls : Hid ((bitsN (Y - X)).length ≤ 40000) := Lib.hid (Nat.le_trans (bits_len_mono (Nat.sub_le _ _)) (Nat.le_trans ly.out (by omega)))
        have hle := Lib.hid (Nat.le_of_lt hxy)
        have CM := Lib.hid (rcmp_b (c := -1) v3 v4 X Y w5 hX5.out hY5.out lx ly (Lib.hid (cmpN_lt hxy)))
        have SU := Lib.hid (fun w' (h : Below w5.heap.size w5 w') => rsub_b v4 v3 Y X w' (hY5.out.keep h) (hX5.out.keep h) ly hle)
        clear hs e1 hxy
        go_wp2_with (go_at_call 58; ((with_reducible refine CM.out.mono ?_); rintro e w6 ⟨rfl, hb6⟩))
        have hdr := hb6.drew
        obtain ⟨_, _, _, j3, j4, j5⟩ := Below.six hdr S5.out
        go_region_with (first
          | (go_at_call 59; ((with_reducible refine (SU.out _ hdr).mono ?_); rintro e w7 ⟨v7, rfl, hv7, hb7⟩; have hB7 := hdr.trans (hb7.mono hb6.size); obtain ⟨_, _, _, o3, o4, o5⟩ := Below.six hB7 S5.out))
          | (go_at_call 54; ((with_reducible refine (NM.out _ _ _ _ _ hv7 (hZ5.out.keep hB7) ls).mono ?_); rintro e w8 ⟨v8, rfl, hv8, hb8⟩; have hB8 := bel2' hB7 hb8; obtain ⟨x1, y1, z1, x2, y2, z2, rfl, f1, f2, f3, f4⟩ := hv8.shape; have B2b := Lib.hid (B2a.out.keep hB8); obtain ⟨m0, m1, m2⟩ := B2b.out.three; obtain ⟨t0, t1, t2⟩ := B2b.out.free3)))
        all_goals
          go_wp2_with fail
          refine bodyPost_ret (v := .agg #[.bool (Q.mk' bn (Y - X) Z).neg, .slice x1 y1 z1, .slice x2 y2 z2]) (by simp [results, Try.results25, go_sem, m0, m1, m2]) rfl ?_
          have hz7 : w.heap.size + 1 + 1 + 1 ≤ w7.heap.size := Nat.le_trans (Nat.succ_le_of_lt B2a.out.1) hB7.size
          refine ⟨_, rfl, ?_⟩
          rw [E1.out]
          exact retR (bel2' hB5 hB8) (by omega) ⟨_, _, rfl, f1, f2, f3.mono hz7, f4.mono hz7⟩
      · have e1 : sumS an X bn Y = (an, X - Y) := by unfold sumS; rw [if_neg hs, if_pos hxy]
        have E1 := Lib.hid e1
        have ls : Hid ((bitsN (X - Y)).length ≤ 40000) := Lib.hid (Nat.le_trans (bits_len_mono (Nat.sub_le _ _)) (Nat.le_trans lx.out (by omega)))
        have hle := Lib.hid hxy
        obtain ⟨cc, hcc⟩ : ∃ cc, cmpN X Y = cc := ⟨_, rfl⟩
        have hc0 : 0 ≤ cc := by rw [← hcc]; unfold cmpN; rw [if_neg (by omega)]; split <;> omega
        have CM := Lib.hid (rcmp_b (c := cc) v3 v4 X Y w5 hX5.out hY5.out lx ly (Lib.hid hcc))
        have SU := Lib.hid (fun w' (h : Below w5.heap.size w5 w') => rsub_b v3 v4 X Y w' (hX5.out.keep h) (hY5.out.keep h) lx hle)
        clear hs e1 hxy hcc
        go_wp2_with (go_at_call 58; ((with_reducible refine CM.out.mono ?_); rintro e w6 ⟨rfl, hb6⟩))
        have hdr := hb6.drew
        obtain ⟨j0, j1, j2, _, _, _⟩ := Below.six hdr S5.out
        go_region_with (first
          | (go_at_call 59; ((with_reducible refine (SU.out _ hdr).mono ?_); rintro e w7 ⟨v7, rfl, hv7, hb7⟩; have hB7 := hdr.trans (hb7.mono hb6.size); obtain ⟨o0, o1, o2, _, _, _⟩ := Below.six hB7 S5.out))
          | (go_at_call 54; ((with_reducible refine (NM.out _ _ _ _ _ hv7 (hZ5.out.keep hB7) ls).mono ?_); rintro e w8 ⟨v8, rfl, hv8, hb8⟩; have hB8 := bel2' hB7 hb8; obtain ⟨x1, y1, z1, x2, y2, z2, rfl, f1, f2, f3, f4⟩ := hv8.shape; have B2b := Lib.hid (B2a.out.keep hB8); obtain ⟨m0, m1, m2⟩ := B2b.out.three; obtain ⟨t0, t1, t2⟩ := B2b.out.free3)))
        all_goals
          go_wp2_with fail
          refine bodyPost_ret (v := .agg #[.bool (Q.mk' an (X - Y) Z).neg, .slice x1 y1 z1, .slice x2 y2 z2]) (by simp [results, Try.results25, go_sem, m0, m1, m2]) rfl ?_
          have hz7 : w.heap.size + 1 + 1 + 1 ≤ w7.heap.size := Nat.le_trans (Nat.succ_le_of_lt B2a.out.1) hB7.size
          refine ⟨_, rfl, ?_⟩
          rw [E1.out]
          exact retR (bel2' hB5 hB8) (by omega) ⟨_, _, rfl, f1, f2, f3.mono hz7, f4.mono hz7⟩

end Go.Proofs.Ytbnhgmikegdppaa

namespace Go.Proofs.Ytbnhgmikegdppaa
open Go.RowKit Go.Proofs.Kit Go.Proofs.Nums

/-- The sign of a difference, as the reference reads it. -/
def cmpD (d : Q) : Int := if d.n = 0 then 0 else if d.neg then -1 else 1

set_option maxRecDepth 100000 in
set_option maxHeartbeats 8000000 in
theorem rcmp_r {va vb : Value} {a b : Q} {w : World} (ha : RAt w va a) (hb : RAt w vb b) (sa : a.Sz 10000) (sb : b.Sz 10000) :
    Calls Try.prog 26 #[va, vb] w fun e w' => e = .returned (.int .i64 (cmpD (Q.addR a (Q.mk' (!b.neg) b.n b.d)))) ∧ Below w.heap.size w w' := by
  obtain ⟨p1, l1, k1, p2, l2, k2, rfl, hn, hd⟩ := ha.shape
  obtain ⟨p3, l3, k3, p4, l4, k4, rfl, hm, hc⟩ := hb.shape
  obtain ⟨o, ho⟩ : ∃ o, Q.mk' (!b.neg) b.n b.d = o := ⟨_, rfl⟩
  obtain ⟨⟨dneg, dn, dd⟩, hD⟩ : ∃ D, Q.addR a o = D := ⟨_, rfl⟩
  have so : o.Sz 10000 := by rw [← ho]; exact Q.mk'_sz sb.1 sb.2 (by omega)
  rw [ho, hD]
  have OP : Hid (∀ w', Below w.heap.size w w' → Calls Try.prog 60 #[.agg #[.bool b.neg, .slice p3 l3 k3, .slice p4 l4 k4]] w' fun e w'' => ∃ v', e = .returned v' ∧ RFr w'' v' o w'.heap.size ∧ Below w'.heap.size w' w'') := Lib.hid (fun w' h => by
    rw [← ho]; exact ropp_r (hb.keep h) ⟨Nat.le_trans sb.1 (by omega), Nat.le_trans sb.2 (by omega)⟩)
  have AD : Hid (∀ v w', Below w.heap.size w w' → RAt w' v o → Calls Try.prog 25 #[.agg #[.bool a.neg, .slice p1 l1 k1, .slice p2 l2 k2], v] w' fun e w'' => ∃ x z x2 z2, e = .returned (.agg #[.bool dneg, .slice x (bitsN dn).length z, .slice x2 (bitsN dd).length z2]) ∧ Below w'.heap.size w' w'') := Lib.hid (fun v w' h h' => by
    have := radd_r (ha.keep h) h' sa so
    rw [hD] at this
    refine this.mono ?_
    rintro e w'' ⟨v', rfl, ⟨vn, vd, rfl, g1, g2, _, _⟩, h3⟩
    obtain ⟨x, z, rfl⟩ := g1.shape
    obtain ⟨x2, z2, rfl⟩ := g2.shape
    exact ⟨_, _, _, _, rfl, h3⟩)
  obtain ⟨an, han⟩ : ∃ t, a.neg = t := ⟨_, rfl⟩
  obtain ⟨bn, hbn⟩ : ∃ t, b.neg = t := ⟨_, rfl⟩
  rw [hbn] at OP
  rw [han] at AD
  rw [han, hbn]
  have b0 := (Blk.new w #[.bool an, .slice p1 l1 k1, .slice p2 l2 k2] 57).alloc (.cells #[.bool bn, .slice p3 l3 k3, .slice p4 l4 k4] 57)
  have b1 := (Blk.new (w.alloc (.cells #[.bool an, .slice p1 l1 k1, .slice p2 l2 k2] 57)) #[.bool bn, .slice p3 l3 k3, .slice p4 l4 k4] 57)
  rw [World.size_alloc] at b1
  have hBd : Below w.heap.size w ((w.alloc (.cells #[.bool an, .slice p1 l1 k1, .slice p2 l2 k2] 57)).alloc (.cells #[.bool bn, .slice p3 l3 k3, .slice p4 l4 k4] 57)) := ((Below.refl _ _).alloc (Nat.le_refl _) _).alloc (by simp) _
  clear hn hd hm hc ha hb sa sb so ho hD han hbn
  obtain ⟨C, hC⟩ : ∃ C, cmpD ⟨dneg, dn, dd⟩ = C := ⟨_, rfl⟩
  rw [hC]
  obtain ⟨N, hN⟩ : ∃ N, (bitsN dn).length = N := ⟨_, rfl⟩
  have hcase : (N = 0 ∧ C = 0) ∨ ((((N : Nat) : Int) == 0) = false ∧ dneg = true ∧ C = -1) ∨ ((((N : Nat) : Int) == 0) = false ∧ dneg = false ∧ C = 1) := by
    subst hC hN
    unfold cmpD
    rcases Nat.eq_zero_or_pos dn with h0 | h0
    · subst h0; exact .inl ⟨rfl, rfl⟩
    · right
      have hz : (((bitsN dn).length : Int) == 0) = false := by rw [beq_eq_false_iff_ne]; have := bits_len_pos h0; omega
      simp only
      rw [if_neg (by omega)]
      cases dneg
      · exact .inr ⟨hz, rfl, rfl⟩
      · exact .inl ⟨hz, rfl, rfl⟩
  rw [hN] at AD
  clear hN hC
  go_enter Try.func26, Try.ntmps26
  go_wp2_with fail
  revert b0 b1 hBd
  generalize (w.alloc (.cells #[.bool an, .slice p1 l1 k1, .slice p2 l2 k2] 57)).alloc (.cells #[.bool bn, .slice p3 l3 k3, .slice p4 l4 k4] 57) = W
  intro b0 b1 hBd
  have B0 := Lib.hid b0.drew
  have B1 := Lib.hid b1.drew
  have B0A := Lib.hid (b0.alloc (.cells #[.bool false, .slice none 0 0, .slice none 0 0] 57)).drew
  have hBA := (hBd.alloc hBd.size (.cells #[.bool false, .slice none 0 0, .slice none 0 0] 57)).drew
  obtain ⟨ca0, ca1, ca2⟩ := (b0.alloc (.cells #[.bool false, .slice none 0 0, .slice none 0 0] 57)).drew.three
  obtain ⟨da0, da1, da2⟩ := (b1.alloc (.cells #[.bool false, .slice none 0 0, .slice none 0 0] 57)).drew.three
  have hBd := hBd.drew
  obtain ⟨c0, c1, c2⟩ := b0.drew.three
  obtain ⟨d0, d1, d2⟩ := b1.drew.three
  have NA := Lib.hid (Blk.new W #[.bool false, .slice none 0 0, .slice none 0 0] 57).drew
  clear b0 b1
  go_region_with (first
    | (go_at_call 60; ((with_reducible refine (OP.out _ (by first | exact hBd | exact hBA)).mono ?_); rintro e w3 ⟨v3, rfl, hv3, hb3⟩; have hB3 : Below w.heap.size w w3 := (by first | exact bel2' hBd hb3 | exact bel2' hBA hb3); have B03 : Hid (Blk w.heap.size #[.bool an, .slice p1 l1 k1, .slice p2 l2 k2] w3) := Lib.hid (by first | exact B0.out.keep hb3 | exact B0A.out.keep hb3); obtain ⟨e0, e1, e2⟩ := B03.out.three; obtain ⟨ea0, ea1, ea2⟩ := (B03.out.alloc (.cells #[.bool false, .slice none 0 0, .slice none 0 0] 57)).three; try have N3 := Lib.hid (NA.out.keep hb3)))
    | (go_at_call 25; ((with_reducible refine (AD.out _ _ (by first | exact hB3 | exact hB3.alloc hB3.size _) (by first | exact hv3.at | exact hv3.at.keep ((Below.refl _ _).alloc (Nat.le_refl _) _))).mono ?_); rintro e w4 ⟨x1, z1, x2, z2, rfl, hb4⟩; have hB4 : Below w.heap.size w w4 := (by first | exact bel2' hB3 hb4 | exact bel2' (hB3.alloc hB3.size _) hb4); try (first | have N4 := N3.out.keep hb4 | have N4 := (Blk.new w3 #[.bool false, .slice none 0 0, .slice none 0 0] 57).keep hb4); try obtain ⟨m0, m1, m2⟩ := N4.three; try obtain ⟨t0, t1, t2⟩ := N4.free3)))
  all_goals
    rcases hcase with ⟨h1, rfl⟩ | ⟨h1, rfl, rfl⟩ | ⟨h1, rfl, rfl⟩
    all_goals
      go_wp2_with fail
      go_ret
      refine ⟨rfl, ?_⟩
      first
        | exact below_set3 hB4 hB3.size _ _ _
        | exact below_set3 hB4 hBd.size _ _ _
        | exact hB4.alloc hB4.size _
        | exact below_set3 (hB4.alloc hB4.size _) hB4.size _ _ _

end Go.Proofs.Ytbnhgmikegdppaa

/- Whole numbers of the reference: From, Of, Add, Cmp. -/
namespace Go.Proofs.Nums

def wq (n : Nat) : Q := ⟨false, n, 1⟩
theorem wq_mk (n : Nat) : Q.mk' false n 1 = wq n := by
  by_cases h : n = 0
  · subst h; rfl
  · rw [Q.mk'_pos (by omega) (by omega), Nat.gcd_one_right, Nat.div_one, Nat.div_one]
    rfl
theorem whole_wq (x : Int) : wholeQ x = wq x.toNat := wq_mk _
theorem of_wq (n : Nat) : Q.of n = wq n := by
  unfold Q.of
  rw [decide_eq_false (by omega), Int.natAbs_natCast]
  exact wq_mk n
theorem norm_wq (n : Nat) : (wq n).norm = wq n := wq_mk n
theorem add_wq (a b : Nat) : Q.addR (wq a) (wq b) = wq (a + b) := by
  unfold Q.addR sumS wq
  simp only [Nat.mul_one, if_true]
  exact wq_mk (a + b)
theorem wq_sz {n : Nat} (h : n ≤ 1000000) : (wq n).Sz 10000 := by
  have h2 : (bitsN n).length ≤ 20 := bits_len_le n 20 (by omega)
  have h1 : (bitsN 1).length ≤ 20 := bits_len_le 1 20 (by omega)
  exact ⟨by show (bitsN n).length ≤ _; omega, by show (bitsN 1).length ≤ _; omega⟩

end Go.Proofs.Nums
namespace Go.Proofs.Ytbnhgmikegdppaa
open Go.RowKit Go.Proofs.Kit Go.Proofs.Nums

theorem cmp_wq (a b : Nat) : cmpD (Q.addR (wq a) (Q.mk' (!(wq b).neg) (wq b).n (wq b).d)) = cmpI a b := by
  unfold cmpI
  by_cases hb : b = 0
  · subst hb
    have e : Q.mk' (!(wq 0).neg) (wq 0).n (wq 0).d = wq 0 := rfl
    rw [e, add_wq]
    unfold cmpD wq
    simp only [Nat.add_zero]
    by_cases ha : a = 0
    · rw [if_pos ha, if_neg (by omega), if_neg (by omega)]
    · rw [if_neg ha, if_neg (by simp), if_neg (by omega), if_pos (by omega)]
  · have e : Q.mk' (!(wq b).neg) (wq b).n (wq b).d = ⟨true, b, 1⟩ := by
      show Q.mk' true b 1 = _
      rw [Q.mk'_pos (by omega) (by omega), Nat.gcd_one_right, Nat.div_one, Nat.div_one]
    rw [e]
    unfold Q.addR sumS wq
    simp only [Nat.mul_one, Bool.false_eq_true, if_false]
    by_cases h : b ≤ a
    · rw [if_pos h, wq_mk]
      unfold cmpD wq
      simp only
      by_cases h2 : a - b = 0
      · rw [if_pos h2, if_neg (by omega), if_neg (by omega)]
      · rw [if_neg h2, if_neg (by simp), if_neg (by omega), if_pos (by omega)]
    · rw [if_neg h]
      have : Q.mk' true (b - a) 1 = ⟨true, b - a, 1⟩ := by
        rw [Q.mk'_pos (by omega) (by omega), Nat.gcd_one_right, Nat.div_one, Nat.div_one]
      rw [this]
      unfold cmpD
      simp only
      rw [if_neg (by omega), if_pos trivial, if_pos (by omega)]
/-- The whole number n, as the reference holds it. -/
def WAt (w : World) (p : Option Addr) (l k : Nat) (p' : Option Addr) (l' k' n : Nat) : Prop := RAt w (.agg #[.bool false, .slice p l k, .slice p' l' k']) (wq n)
theorem WAt.keep {w w' : World} {p p' : Option Addr} {l k l' k' n : Nat} (h : WAt w p l k p' l' k' n) (hb : Below w.heap.size w w') : WAt w' p l k p' l' k' n := RAt.keep h hb
def GivesW (n : Nat) (w : World) (e : Ending) (w' : World) : Prop := ∃ p l k p' l' k', e = .returned (.agg #[.bool false, .slice p l k, .slice p' l' k']) ∧ WAt w' p l k p' l' k' n ∧ Below w.heap.size w w'
theorem wfrom_c {p p' : Option Addr} {l k l' k' : Nat} {x : Int} {w : World} (h : ratR w [.bool false, .slice p l k, .slice p' l' k'] (wholeQ x)) :
    Calls Try.prog 24 #[.agg #[.bool false, .slice p l k, .slice p' l' k']] w (GivesW x.toNat w) := by
  obtain ⟨_, _, _, _, _, _, e, hr, _⟩ := h
  simp only [List.cons.injEq, Value.slice.injEq, and_true, true_and] at e
  obtain ⟨⟨rfl, rfl, rfl⟩, rfl, rfl, rfl⟩ := e
  have ha : RatAt w (.agg #[.bool false, .slice p l k, .slice p' l' k']) (wholeQ x) 2 := by
    obtain ⟨vn, vd, e, h1, h2⟩ := hr
    exact ⟨vn, vd, e, h1.num, h2.num⟩
  refine (rfrom_r ha (by omega)).mono ?_
  rintro e w' ⟨v', rfl, g1, g2⟩
  rw [whole_wq, norm_wq] at g1
  obtain ⟨p1, l1, k1, p2, l2, k2, rfl, _⟩ := g1.shape
  exact ⟨p1, l1, k1, p2, l2, k2, rfl, g1.at, g2⟩
theorem wof_c (n : Nat) (hn : n ≤ 1000000) (w : World) : Calls Try.prog 27 #[.int .i64 n] w (GivesW n w) := by
  refine (rof_r (z := (n : Int)) (by omega) (by omega)).mono ?_
  rintro e w' ⟨v', rfl, g1, g2⟩
  rw [of_wq] at g1
  obtain ⟨p1, l1, k1, p2, l2, k2, rfl, _⟩ := g1.shape
  exact ⟨p1, l1, k1, p2, l2, k2, rfl, g1.at, g2⟩
theorem wadd_c {p1 p2 p3 p4 : Option Addr} {l1 k1 l2 k2 l3 k3 l4 k4 a b : Nat} {w : World} (ha : WAt w p1 l1 k1 p2 l2 k2 a) (hb : WAt w p3 l3 k3 p4 l4 k4 b) (h1 : a ≤ 1000000) (h2 : b ≤ 1000000) :
    Calls Try.prog 25 #[.agg #[.bool false, .slice p1 l1 k1, .slice p2 l2 k2], .agg #[.bool false, .slice p3 l3 k3, .slice p4 l4 k4]] w (GivesW (a + b) w) := by
  refine (radd_r ha hb (wq_sz h1) (wq_sz h2)).mono ?_
  rintro e w' ⟨v', rfl, g1, g2⟩
  rw [add_wq] at g1
  obtain ⟨p1, l1, k1, p2, l2, k2, rfl, _⟩ := g1.shape
  exact ⟨p1, l1, k1, p2, l2, k2, rfl, g1.at, g2⟩
theorem wcmp_c {p1 p2 p3 p4 : Option Addr} {l1 k1 l2 k2 l3 k3 l4 k4 a b : Nat} {w : World} (ha : WAt w p1 l1 k1 p2 l2 k2 a) (hb : WAt w p3 l3 k3 p4 l4 k4 b) (h1 : a ≤ 1000000) (h2 : b ≤ 1000000) :
    Calls Try.prog 26 #[.agg #[.bool false, .slice p1 l1 k1, .slice p2 l2 k2], .agg #[.bool false, .slice p3 l3 k3, .slice p4 l4 k4]] w fun e w' => e = .returned (.int .i64 (cmpI a b)) ∧ Below w.heap.size w w' := by
  have := rcmp_r ha hb (wq_sz h1) (wq_sz h2)
  rwa [cmp_wq] at this

end Go.Proofs.Ytbnhgmikegdppaa

/- The reference's comparison of rounds: two alike. -/
namespace Go.Proofs.Ytbnhgmikegdppaa
open Go.RowKit Go.Proofs.Kit Go.Proofs.Nums

theorem ratR_sl {w : World} {u1 u2 u3 : Value} {q : Q} (h : ratR w [u1, u2, u3] q) : ∃ p l k p' l' k', u1 = .bool false ∧ u2 = .slice p l k ∧ u3 = .slice p' l' k' := by
  obtain ⟨p, l, k, p', l', k', e, _⟩ := h
  simp only [List.cons.injEq, and_true] at e
  exact ⟨p, l, k, p', l', k', e.1, e.2.1, e.2.2⟩
theorem ratR_l {w : World} {v1 v2 : Value} {q : Q} (h : ratR w [.bool false, v1, v2] q) : RatL w (.agg #[.bool false, v1, v2]) false (limbs q.n) (limbs q.d) ∧ (limbs q.n).length ≤ 2 ∧ (limbs q.d).length ≤ 2 := by
  obtain ⟨p, l, k, p', l', k', e, hr, _⟩ := h
  simp only [List.cons.injEq, and_true, true_and] at e
  obtain ⟨rfl, rfl⟩ := e
  obtain ⟨vn, vd, e, h1, h2⟩ := hr
  simp only [Value.agg.injEq, Array.mk.injEq, List.cons.injEq, and_true] at e
  obtain ⟨_, rfl, rfl⟩ := e
  exact ⟨⟨_, _, rfl, h1.1, h2.1⟩, limbs_len_le _ _ h1.2, limbs_len_le _ _ h2.2⟩
theorem req_same {w : World} {v1 v2 v3 v4 : Value} {q : Q} (ha : ratR w [.bool false, v1, v2] q) (hb : ratR w [.bool false, v3, v4] q) :
    Calls Try.prog 65 #[.agg #[.bool false, v1, v2], .agg #[.bool false, v3, v4]] w fun e w' => e = .returned (.bool true) ∧ Below w.heap.size w w' := by
  obtain ⟨h1, l1, l2⟩ := ratR_l ha
  obtain ⟨h2, _, _⟩ := ratR_l hb
  have := req_r h1 h2 (by omega) (by omega) (by omega) (by omega)
  have e : eqR false (limbs q.n) (limbs q.d) false (limbs q.n) (limbs q.d) = true := by unfold eqR eqN; simp
  rwa [e] at this

theorem six_keep {w w' : World} {b1 o1 o2 o3 b2 o4 o5 o6 : Nat} {v1 v2 v3 v4 v5 v6 : Value} (hb : Below w.heap.size w w') (h : w.cell? ⟨b1, o1, none⟩ = some v1 ∧ w.cell? ⟨b1, o2, none⟩ = some v2 ∧ w.cell? ⟨b1, o3, none⟩ = some v3 ∧ w.cell? ⟨b2, o4, none⟩ = some v4 ∧ w.cell? ⟨b2, o5, none⟩ = some v5 ∧ w.cell? ⟨b2, o6, none⟩ = some v6) :
    w'.cell? ⟨b1, o1, none⟩ = some v1 ∧ w'.cell? ⟨b1, o2, none⟩ = some v2 ∧ w'.cell? ⟨b1, o3, none⟩ = some v3 ∧ w'.cell? ⟨b2, o4, none⟩ = some v4 ∧ w'.cell? ⟨b2, o5, none⟩ = some v5 ∧ w'.cell? ⟨b2, o6, none⟩ = some v6 :=
  ⟨cell_keep hb h.1, cell_keep hb h.2.1, cell_keep hb h.2.2.1, cell_keep hb h.2.2.2.1, cell_keep hb h.2.2.2.2.1, cell_keep hb h.2.2.2.2.2⟩

set_option maxRecDepth 100000 in
set_option maxHeartbeats 4000000 in
theorem samenums_c {va vb : Value} {l : List Q} {w : World} (ha : RatsAt w va l) (hb : RatsAt w vb l) :
    Calls Try.prog 64 #[va, vb] w fun e w' => e = .returned (.bool true) ∧ Below w.heap.size w w' := by
  have HA := Lib.hid ha
  have HB := Lib.hid hb
  have hlm := SliceOf.len ha
  obtain ⟨p, c, rfl⟩ := ha.shp
  obtain ⟨p', c', rfl⟩ := hb.shp
  obtain ⟨n, hn⟩ : ∃ n, l.length = n := ⟨_, rfl⟩
  have HN := Lib.hid hn
  rw [hn] at HA HB hlm ⊢
  clear ha hb hn
  have q0 : ((n : Int) != (n : Int)) = false := by simp
  go_enter Try.func64, Try.ntmps64
  go_wp2_with fail
  go_loopw [5] (fun iv wr => ∃ k : Nat, k ≤ n ∧ iv = .int .i64 k ∧ Below w.heap.size w wr) (fun iv _ => n - (intOf iv).toNat)
  case atStart => exact ⟨0, by omega, rfl, Below.refl _ _⟩
  case round =>
    obtain ⟨k, hk, rfl, hbel⟩ := hrel
    by_cases hlt : k < n
    · have hltz : (k : Int) < (n : Int) := by omega
      obtain ⟨q, hq⟩ : ∃ q, l.getD k (Q.of 0) = q := ⟨_, rfl⟩
      obtain ⟨b1, o1, p1, l1, k1, p2, l2, k2, e1, h1, h2, r1, r2, ca, cb, cc⟩ := (HA.out.keep hbel).cellsAt (by rw [HN.out]; exact hlt) hq
      obtain ⟨b2, o2, p3, l3, k3, p4, l4, k4, e2, h3, h4, r3, r4, cd, ce, cf⟩ := (HB.out.keep hbel).cellsAt (by rw [HN.out]; exact hlt) hq
      subst e1; subst e2
      have S0 : Hid (wr.drew.cell? ⟨b1, o1 + k * 3, none⟩ = some (.bool false) ∧ wr.drew.cell? ⟨b1, o1 + k * 3 + 1, none⟩ = some (.slice p1 l1 k1) ∧ wr.drew.cell? ⟨b1, o1 + k * 3 + 2, none⟩ = some (.slice p2 l2 k2) ∧ wr.drew.cell? ⟨b2, o2 + k * 3, none⟩ = some (.bool false) ∧ wr.drew.cell? ⟨b2, o2 + k * 3 + 1, none⟩ = some (.slice p3 l3 k3) ∧ wr.drew.cell? ⟨b2, o2 + k * 3 + 2, none⟩ = some (.slice p4 l4 k4)) := Lib.hid ⟨ca, cb, cc, cd, ce, cf⟩
      have hbd : Below wr.heap.size wr wr.drew := (Below.refl _ _).drew
      have EQ : Hid (Calls Try.prog 65 #[.agg #[.bool false, .slice p1 l1 k1, .slice p2 l2 k2], .agg #[.bool false, .slice p3 l3 k3, .slice p4 l4 k4]] wr.drew fun e w' => e = .returned (.bool true) ∧ Below wr.drew.heap.size wr.drew w') := Lib.hid (req_same (q := q) (ratR.keep ⟨_, _, _, _, _, _, rfl, r1, r2⟩ hbd) (ratR.keep ⟨_, _, _, _, _, _, rfl, r3, r4⟩ hbd))
      clear ca cb cc cd ce cf hq r1 r2 r3 r4
      go_wp2_with fail
      go_region_held3 (fun w' => w'.cell? ⟨b1, o1 + k * 3, none⟩ = some (.bool false) ∧ w'.cell? ⟨b1, o1 + k * 3 + 1, none⟩ = some (.slice p1 l1 k1) ∧ w'.cell? ⟨b1, o1 + k * 3 + 2, none⟩ = some (.slice p2 l2 k2) ∧ w'.cell? ⟨b2, o2 + k * 3, none⟩ = some (.bool false) ∧ w'.cell? ⟨b2, o2 + k * 3 + 1, none⟩ = some (.slice p3 l3 k3) ∧ w'.cell? ⟨b2, o2 + k * 3 + 2, none⟩ = some (.slice p4 l4 k4))
        (first | exact S1.out | exact S0.out)
        (first
          | (go_at_call 65; ((with_reducible refine EQ.out.mono ?_); rintro _ w1 ⟨rfl, hb1⟩; have hB1 := bel2' hbd hb1; have S1 := Lib.hid (six_keep hb1 S0.out))))
      all_goals
        go_wp2_with fail
        go_roundw
        case rel => exact ⟨k + 1, by omega, by go_num, bel2' hbel hB1⟩
        case measure => simp [intOf] <;> omega
    · obtain rfl : n = k := by omega
      have hltz : ¬ (n : Int) < (n : Int) := by omega
      go_wp2_with fail
      go_ret
      exact ⟨rfl, hbel⟩

/-- A round as it lies in cells. -/
structure RndV (w : World) (a b q1 q2 e1 e2 s1 s2 l1 l2 l3 : Value) (r : Rnd) : Prop where
  h : RndH w a b q1 q2 e1 e2 s1 s2 r
  el : IntsAt w l1 r.el
  ex : IntsAt w l2 r.ex
  ti : IntsAt w l3 r.ti
theorem RndV.keep {w w' : World} {a b q1 q2 e1 e2 s1 s2 l1 l2 l3 : Value} {r : Rnd} (h : RndV w a b q1 q2 e1 e2 s1 s2 l1 l2 l3 r) (hb : Below w.heap.size w w') : RndV w' a b q1 q2 e1 e2 s1 s2 l1 l2 l3 r :=
  ⟨⟨h.h.votes.keep hb, h.h.keep.keep hb, h.h.quota.keep hb, h.h.exh.keep hb, h.h.sur.keep hb⟩, h.el.keep hb, h.ex.keep hb, h.ti.keep hb⟩

set_option maxRecDepth 100000 in
set_option maxHeartbeats 8000000 in
theorem sameround_c {a b q1 q2 e1 e2 s1 s2 l1 l2 l3 a' b' q1' q2' e1' e2' s1' s2' l1' l2' l3' : Value} {r : Rnd} {w : World} (h1 : RndV w a b q1 q2 e1 e2 s1 s2 l1 l2 l3 r) (h2 : RndV w a' b' q1' q2' e1' e2' s1' s2' l1' l2' l3' r) :
    Calls Try.prog 34 #[.agg #[a, b, .bool false, q1, q2, .bool false, e1, e2, .bool false, s1, s2, l1, l2, l3], .agg #[a', b', .bool false, q1', q2', .bool false, e1', e2', .bool false, s1', s2', l1', l2', l3']] w fun e w' => e = .returned (.bool true) ∧ Below w.heap.size w w' := by
  have K1 := (Blk.new w #[a, b, .bool false, q1, q2, .bool false, e1, e2, .bool false, s1, s2, l1, l2, l3] 54).alloc (.cells #[a', b', .bool false, q1', q2', .bool false, e1', e2', .bool false, s1', s2', l1', l2', l3'] 54)
  have K2 := Blk.new (w.alloc (.cells #[a, b, .bool false, q1, q2, .bool false, e1, e2, .bool false, s1, s2, l1, l2, l3] 54)) #[a', b', .bool false, q1', q2', .bool false, e1', e2', .bool false, s1', s2', l1', l2', l3'] 54
  have hbW := below_al (below_al (Below.refl w.heap.size w) (.cells #[a, b, .bool false, q1, q2, .bool false, e1, e2, .bool false, s1, s2, l1, l2, l3] 54)) (.cells #[a', b', .bool false, q1', q2', .bool false, e1', e2', .bool false, s1', s2', l1', l2', l3'] 54)
  rw [show (w.alloc (.cells #[a, b, .bool false, q1, q2, .bool false, e1, e2, .bool false, s1, s2, l1, l2, l3] 54)).heap.size = w.heap.size + 1 by simp] at K2
  obtain ⟨W, hW⟩ : ∃ W, (w.alloc (.cells #[a, b, .bool false, q1, q2, .bool false, e1, e2, .bool false, s1, s2, l1, l2, l3] 54)).alloc (.cells #[a', b', .bool false, q1', q2', .bool false, e1', e2', .bool false, s1', s2', l1', l2', l3'] 54) = W := ⟨_, rfl⟩
  rw [hW] at K1 K2 hbW
  have H1 := h1.keep hbW
  have H2 := h2.keep hbW
  have SV := Lib.hid (fun wq (h : Below W.heap.size W wq) => samenums_c (H1.h.votes.keep h) (H2.h.votes.keep h))
  have SK := Lib.hid (fun wq (h : Below W.heap.size W wq) => samenums_c (H1.h.keep.keep h) (H2.h.keep.keep h))
  have EQ := Lib.hid (fun wq (h : Below W.heap.size W wq) => req_same (H1.h.quota.keep h) (H2.h.quota.keep h))
  have EX := Lib.hid (fun wq (h : Below W.heap.size W wq) => req_same (H1.h.exh.keep h) (H2.h.exh.keep h))
  have ES := Lib.hid (fun wq (h : Below W.heap.size W wq) => req_same (H1.h.sur.keep h) (H2.h.sur.keep h))
  have IQ : ∀ {wq : World} {va vb : Value} {l : List Int}, IntsAt wq va l → IntsAt wq vb l → Calls Try.prog 13 #[va, vb] wq fun e w' => e = .returned (.bool true) ∧ Below wq.heap.size wq w' := fun h1 h2 => by
    have := eq_c h1 h2
    rwa [decide_eq_true rfl] at this
  have IE := Lib.hid (fun wq (h : Below W.heap.size W wq) => IQ (H1.el.keep h) (H2.el.keep h))
  have IX := Lib.hid (fun wq (h : Below W.heap.size W wq) => IQ (H1.ex.keep h) (H2.ex.keep h))
  have IT := Lib.hid (fun wq (h : Below W.heap.size W wq) => IQ (H1.ti.keep h) (H2.ti.keep h))
  have x0 : W.cell? ⟨w.heap.size, 0, none⟩ = some a := K1.2.1 0
  have y0 : W.cell? ⟨w.heap.size + 1, 0, none⟩ = some a' := K2.2.1 0
  have K1 := Lib.hid K1
  have K2 := Lib.hid K2
  have HBW := Lib.hid hbW
  clear h1 h2 H1 H2 IQ hbW
  go_enter Try.func34, Try.ntmps34
  go_wp2_with (first
    | (go_at_call 64; ((with_reducible refine (SV.out _ (Below.refl _ _)).mono ?_); rintro _ w1 ⟨rfl, hb1⟩; have B1 := hb1; have x1 : w1.cell? ⟨w.heap.size, 1, none⟩ = some (b) := (K1.out.keep B1).2.1 1; have y1 : w1.cell? ⟨w.heap.size + 1, 1, none⟩ = some (b') := (K2.out.keep B1).2.1 1))
    | (go_at_call 64; ((with_reducible refine (SK.out _ B1).mono ?_); rintro _ w2 ⟨rfl, hb2⟩; have B2 := bel2' B1 hb2; have x2 : w2.cell? ⟨w.heap.size, 2, none⟩ = some (.bool false) := (K1.out.keep B2).2.1 2; have y2 : w2.cell? ⟨w.heap.size + 1, 2, none⟩ = some (.bool false) := (K2.out.keep B2).2.1 2; have x3 : w2.cell? ⟨w.heap.size, 3, none⟩ = some (q1) := (K1.out.keep B2).2.1 3; have y3 : w2.cell? ⟨w.heap.size + 1, 3, none⟩ = some (q1') := (K2.out.keep B2).2.1 3; have x4 : w2.cell? ⟨w.heap.size, 4, none⟩ = some (q2) := (K1.out.keep B2).2.1 4; have y4 : w2.cell? ⟨w.heap.size + 1, 4, none⟩ = some (q2') := (K2.out.keep B2).2.1 4))
    | (go_at_call 65; ((with_reducible refine (EQ.out _ B2).mono ?_); rintro _ w3 ⟨rfl, hb3⟩; have B3 := bel2' B2 hb3; have x5 : w3.cell? ⟨w.heap.size, 5, none⟩ = some (.bool false) := (K1.out.keep B3).2.1 5; have y5 : w3.cell? ⟨w.heap.size + 1, 5, none⟩ = some (.bool false) := (K2.out.keep B3).2.1 5; have x6 : w3.cell? ⟨w.heap.size, 6, none⟩ = some (e1) := (K1.out.keep B3).2.1 6; have y6 : w3.cell? ⟨w.heap.size + 1, 6, none⟩ = some (e1') := (K2.out.keep B3).2.1 6; have x7 : w3.cell? ⟨w.heap.size, 7, none⟩ = some (e2) := (K1.out.keep B3).2.1 7; have y7 : w3.cell? ⟨w.heap.size + 1, 7, none⟩ = some (e2') := (K2.out.keep B3).2.1 7))
    | (go_at_call 65; ((with_reducible refine (EX.out _ B3).mono ?_); rintro _ w4 ⟨rfl, hb4⟩; have B4 := bel2' B3 hb4; have x8 : w4.cell? ⟨w.heap.size, 8, none⟩ = some (.bool false) := (K1.out.keep B4).2.1 8; have y8 : w4.cell? ⟨w.heap.size + 1, 8, none⟩ = some (.bool false) := (K2.out.keep B4).2.1 8; have x9 : w4.cell? ⟨w.heap.size, 9, none⟩ = some (s1) := (K1.out.keep B4).2.1 9; have y9 : w4.cell? ⟨w.heap.size + 1, 9, none⟩ = some (s1') := (K2.out.keep B4).2.1 9; have x10 : w4.cell? ⟨w.heap.size, 10, none⟩ = some (s2) := (K1.out.keep B4).2.1 10; have y10 : w4.cell? ⟨w.heap.size + 1, 10, none⟩ = some (s2') := (K2.out.keep B4).2.1 10))
    | (go_at_call 65; ((with_reducible refine (ES.out _ B4).mono ?_); rintro _ w5 ⟨rfl, hb5⟩; have B5 := bel2' B4 hb5; have x11 : w5.cell? ⟨w.heap.size, 11, none⟩ = some (l1) := (K1.out.keep B5).2.1 11; have y11 : w5.cell? ⟨w.heap.size + 1, 11, none⟩ = some (l1') := (K2.out.keep B5).2.1 11))
    | (go_at_call 13; ((with_reducible refine (IE.out _ B5).mono ?_); rintro _ w6 ⟨rfl, hb6⟩; have B6 := bel2' B5 hb6; have x12 : w6.cell? ⟨w.heap.size, 12, none⟩ = some (l2) := (K1.out.keep B6).2.1 12; have y12 : w6.cell? ⟨w.heap.size + 1, 12, none⟩ = some (l2') := (K2.out.keep B6).2.1 12))
    | (go_at_call 13; ((with_reducible refine (IX.out _ B6).mono ?_); rintro _ w7 ⟨rfl, hb7⟩; have B7 := bel2' B6 hb7; have x13 : w7.cell? ⟨w.heap.size, 13, none⟩ = some (l3) := (K1.out.keep B7).2.1 13; have y13 : w7.cell? ⟨w.heap.size + 1, 13, none⟩ = some (l3') := (K2.out.keep B7).2.1 13))
    | (go_at_call 13; ((with_reducible refine (IT.out _ B7).mono ?_); rintro _ w8 ⟨rfl, hb8⟩; have B8 := bel2' B7 hb8)))
  go_ret
  exact ⟨rfl, bel2' HBW.out B8⟩

end Go.Proofs.Ytbnhgmikegdppaa

/- IrvBlank: the plain law. -/
namespace Go.Proofs.Nums

theorem first_empty (R : Int → Bool) : firstC R [] = -1 := rfl
theorem blank_wt {gs : List Grp} {K : Int} (R : Int → Bool) {c : Int} (hc : c ≠ -1) : wt R (addS gs [] K) c = wt R gs c := by
  unfold wt
  rw [sumF_add, if_neg, Int.add_zero]
  rw [first_empty, decide_eq_true_iff]
  exact fun e => hc e.symm
theorem blank_rest {gs : List Grp} {K : Int} (rem : List Bool) : restS (addS gs [] K) rem = restS gs rem + K := by
  unfold restS wt
  rw [sumF_add, if_pos]
  rw [first_empty]
  rfl
theorem blank_votes {gs : List Grp} {K : Int} (rem : List Bool) : votesS (addS gs [] K) rem = votesS gs rem := by
  unfold votesS
  exact List.map_congr_left fun i _ => blank_wt _ (by omega)
theorem blank_low {gs : List Grp} {K : Int} (rem : List Bool) : lowS (addS gs [] K) rem = lowS gs rem := by
  refine sorted_ext (low_sorted _ _) (low_sorted _ _) fun x => ?_
  rw [mem_low, mem_low]
  unfold Low
  have hr : ∀ d, remB rem d = true → wt (remB rem) (addS gs [] K) d = wt (remB rem) gs d := fun d hd => blank_wt _ (by have := remB_lt hd; omega)
  constructor
  · rintro ⟨h1, h2⟩
    exact ⟨h1, fun d hd => by have := h2 d hd; rwa [hr x h1, hr d hd] at this⟩
  · rintro ⟨h1, h2⟩
    exact ⟨h1, fun d hd => by rw [hr x h1, hr d hd]; exact h2 d hd⟩
theorem find_congr {p q : Int → Bool} : ∀ {l : List Int}, (∀ x ∈ l, p x = q x) → l.find? p = l.find? q
  | [], _ => rfl
  | x :: l, h => by
    have hx := h x (List.mem_cons_self ..)
    have ih := find_congr (l := l) fun y hy => h y (List.mem_cons_of_mem _ hy)
    cases e : q x with
    | true => rw [List.find?_cons_of_pos (by rw [hx, e]), List.find?_cons_of_pos e]
    | false => rw [List.find?_cons_of_neg (by rw [hx, e]; simp), List.find?_cons_of_neg (by rw [e]; simp), ih]
def moreR (K : Int) (r : Rnd) : Rnd := ⟨r.votes, r.keep, r.quota, r.exh + K, r.el, r.ex, r.ti⟩
theorem blank_count {whole : Bool} {brk : List (List Int) → List Int → Int} {gs : List Grp} {K : Int} : ∀ (m : Nat) (rem : List Bool) (ear : List (List Int)), countS whole brk (addS gs [] K) m rem ear = (countS whole brk gs m rem ear).map (moreR K)
  | 0, _, _ => rfl
  | m + 1, rem, ear => by
    have hq : quotaS (addS gs [] K) rem = quotaS gs rem := by unfold quotaS; rw [blank_votes]
    have hw : (aliveS rem).find? (wins whole (addS gs [] K) rem) = (aliveS rem).find? (wins whole gs rem) := find_congr fun x hx => by
      unfold wins
      rw [hq, blank_wt _ (by have := remB_lt (mem_alive.1 hx); omega)]
    have hx : exclS brk (addS gs [] K) rem ear = exclS brk gs rem ear := by unfold exclS; rw [blank_low]
    have ht : tiedW (addS gs [] K) rem = tiedW gs rem := by unfold tiedW; rw [blank_low]
    have hm : ∀ a b c, mkR (addS gs [] K) rem a b c = moreR K (mkR gs rem a b c) := fun a b c => by
      unfold mkR moreR
      rw [blank_votes, hq, blank_rest]
    unfold countS
    rw [hw]
    cases (aliveS rem).find? (wins whole gs rem) with
    | some w =>
      simp only [List.map_cons, List.map_nil]
      rw [hm]
    | none =>
      simp only [List.map_cons]
      rw [hm, hx, ht, blank_votes, blank_count m]

theorem count_exh {whole : Bool} {brk : List (List Int) → List Int → Int} {gs : List Grp} {n : Int} (hp : PileP n gs) : ∀ {m : Nat} {rem : List Bool} {ear : List (List Int)}, ∀ r ∈ countS whole brk gs m rem ear, 0 ≤ r.exh ∧ r.exh ≤ 100000
  | 0, _, _, r, hr => by simp [countS] at hr
  | m + 1, rem, ear, r, hr => by
    unfold countS at hr
    split at hr
    · rw [List.mem_singleton] at hr
      subst hr
      exact rest_rng hp
    · rcases List.mem_cons.1 hr with rfl | hr
      · exact rest_rng hp
      · exact count_exh hp r hr

end Go.Proofs.Nums

/- IrvBlank: the walk. -/
namespace Go.Proofs.Ytbnhgmikegdppaa
open Go.RowKit Go.Proofs.Kit Go.Proofs.Nums

theorem lots_perm (n : Nat) (code : Int) : Lots n (permS n code) := ⟨perm_bal n code, perm_len n code⟩
theorem rndR_keep {w w' : World} {c : List Value} {r : Rnd} (h : rndR w c r) (hb : Below w.heap.size w w') : rndR w' c r := by
  obtain ⟨a, b, q1, q2, e1, e2, s1, s2, l1, l2, l3, e, g, i1, i2, i3⟩ := h
  exact ⟨a, b, q1, q2, e1, e2, s1, s2, l1, l2, l3, e, ⟨g.votes.keep hb, g.keep.keep hb, g.quota.keep hb, g.exh.keep hb, g.sur.keep hb⟩, i1.keep hb, i2.keep hb, i3.keep hb⟩
def RndsAt (w : World) (v : Value) (R : List Rnd) : Prop := SliceOf rndR 14 w v R
theorem RndsAt.keep {w w' : World} {v : Value} {R : List Rnd} (h : RndsAt w v R) (hb : Below w.heap.size w w') : RndsAt w' v R := SliceOf.keep h hb fun _ _ g => rndR_keep g hb
def RndC (w : World) (g o : Nat) (a b q1 q2 e1 e2 s1 s2 l1 l2 l3 : Value) : Prop := w.cell? ⟨g, o, none⟩ = some (a) ∧ w.cell? ⟨g, o + 1, none⟩ = some (b) ∧ w.cell? ⟨g, o + 2, none⟩ = some (.bool false) ∧ w.cell? ⟨g, o + 3, none⟩ = some (q1) ∧ w.cell? ⟨g, o + 4, none⟩ = some (q2) ∧ w.cell? ⟨g, o + 5, none⟩ = some (.bool false) ∧ w.cell? ⟨g, o + 6, none⟩ = some (e1) ∧ w.cell? ⟨g, o + 7, none⟩ = some (e2) ∧ w.cell? ⟨g, o + 8, none⟩ = some (.bool false) ∧ w.cell? ⟨g, o + 9, none⟩ = some (s1) ∧ w.cell? ⟨g, o + 10, none⟩ = some (s2) ∧ w.cell? ⟨g, o + 11, none⟩ = some (l1) ∧ w.cell? ⟨g, o + 12, none⟩ = some (l2) ∧ w.cell? ⟨g, o + 13, none⟩ = some (l3)
theorem rnd_at {w : World} {p : Option Addr} {n c k : Nat} {R : List Rnd} {r : Rnd} (h : RndsAt w (.slice p n c) R) (hr : R[k]? = some r) :
    ∃ g off a b q1 q2 e1 e2 s1 s2 l1 l2 l3, p = some ⟨g, off, none⟩ ∧ n = R.length ∧ R.length ≤ c ∧ c ≤ 9223372036854775807 ∧ RndV w a b q1 q2 e1 e2 s1 s2 l1 l2 l3 r ∧ RndC w g (off + k * 14) a b q1 q2 e1 e2 s1 s2 l1 l2 l3 := by
  have hk := (List.getElem?_eq_some_iff.1 hr).1
  obtain ⟨g, off, cap, cs, e, h1, h2, h3, h4, h5⟩ := SliceOf.at_ (by omega) h hk
  simp only [Value.slice.injEq] at e
  obtain ⟨rfl, rfl, rfl⟩ := e
  have e2 : R[k] = r := by rw [List.getElem?_eq_getElem hk] at hr; simpa using hr
  rw [e2] at h4
  obtain ⟨a, b, q1, q2, e1, e2, s1, s2, l1, l2, l3, rfl, g1, g2, g3, g4⟩ := h4
  have hc : ∀ j u, (rndA a b q1 q2 e1 e2 s1 s2 l1 l2 l3).toList[j]? = some u → w.cell? ⟨g, off + k * 14 + j, none⟩ = some u := fun j u hu => by rw [Nat.add_assoc]; exact h5 j u hu
  exact ⟨g, off, a, b, q1, q2, e1, e2, s1, s2, l1, l2, l3, rfl, rfl, h1, h2, ⟨g1, g2, g3, g4⟩, hc 0 _ rfl, hc 1 _ rfl, hc 2 _ rfl, hc 3 _ rfl, hc 4 _ rfl, hc 5 _ rfl, hc 6 _ rfl, hc 7 _ rfl, hc 8 _ rfl, hc 9 _ rfl, hc 10 _ rfl, hc 11 _ rfl, hc 12 _ rfl, hc 13 _ rfl⟩
theorem RndC.keep {w w' : World} {g o : Nat} {a b q1 q2 e1 e2 s1 s2 l1 l2 l3 : Value} (h : RndC w g o a b q1 q2 e1 e2 s1 s2 l1 l2 l3) (hb : Below w.heap.size w w') : RndC w' g o a b q1 q2 e1 e2 s1 s2 l1 l2 l3 := by
  obtain ⟨c0, c1, c2, c3, c4, c5, c6, c7, c8, c9, c10, c11, c12, c13⟩ := h
  exact ⟨cell_keep hb c0, cell_keep hb c1, cell_keep hb c2, cell_keep hb c3, cell_keep hb c4, cell_keep hb c5, cell_keep hb c6, cell_keep hb c7, cell_keep hb c8, cell_keep hb c9, cell_keep hb c10, cell_keep hb c11, cell_keep hb c12, cell_keep hb c13⟩
theorem blk_pair (w : World) (A B : Array Value) (T U : TypeId) : Blk w.heap.size A ((w.alloc (.cells A T)).alloc (.cells B U)).drew ∧ Blk (w.heap.size + 1) B ((w.alloc (.cells A T)).alloc (.cells B U)).drew ∧ Below w.heap.size w ((w.alloc (.cells A T)).alloc (.cells B U)).drew := by
  refine ⟨((Blk.new w A T).alloc _).drew, ?_, (below_al (below_al (Below.refl _ _) _) _).drew⟩
  have h := Blk.new (w.alloc (.cells A T)) B U
  rw [show (w.alloc (.cells A T)).heap.size = w.heap.size + 1 by simp] at h
  exact h.drew

theorem blk_off {b c : Nat} {cs : Array Value} {w : World} (h : Blk c cs w) (hne : c ≠ b) (j : Nat) (v : Value) : Blk c cs (w.setCell ⟨b, j, none⟩ v) :=
  h.off (Below.heap_setCell _ _ _ _ (by exact hne)) (by simp)
theorem rndv_sh {w : World} {a b q1 q2 e1 e2 s1 s2 l1 l2 l3 : Value} {r : Rnd} (h : RndV w a b q1 q2 e1 e2 s1 s2 l1 l2 l3 r) : ∃ pa na ca pb nb cb pq1 nq1 cq1 pq2 nq2 cq2 pe1 ne1 ce1 pe2 ne2 ce2 ps1 ns1 cs1 ps2 ns2 cs2 pl1 nl1 cl1 pl2 nl2 cl2 pl3 nl3 cl3, a = .slice pa na ca ∧ b = .slice pb nb cb ∧ q1 = .slice pq1 nq1 cq1 ∧ q2 = .slice pq2 nq2 cq2 ∧ e1 = .slice pe1 ne1 ce1 ∧ e2 = .slice pe2 ne2 ce2 ∧ s1 = .slice ps1 ns1 cs1 ∧ s2 = .slice ps2 ns2 cs2 ∧ l1 = .slice pl1 nl1 cl1 ∧ l2 = .slice pl2 nl2 cl2 ∧ l3 = .slice pl3 nl3 cl3 := by
  obtain ⟨pa, ca, ea, _, _⟩ := h.h.votes.shape
  obtain ⟨pb, cb, eb, _, _⟩ := h.h.keep.shape
  obtain ⟨p1, m1, c1, p2, m2, c2, e1, _⟩ := h.h.quota
  obtain ⟨p3, m3, c3, p4, m4, c4, e2, _⟩ := h.h.exh
  obtain ⟨p5, m5, c5, p6, m6, c6, e3, _⟩ := h.h.sur
  obtain ⟨p7, c7, e4⟩ := h.el.shape
  obtain ⟨p8, c8, e5⟩ := h.ex.shape
  obtain ⟨p9, c9, e6⟩ := h.ti.shape
  simp only [List.cons.injEq, and_true, true_and] at e1 e2 e3
  exact ⟨_, _, _, _, _, _, _, _, _, _, _, _, _, _, _, _, _, _, _, _, _, _, _, _, _, _, _, _, _, _, _, _, _, ea, eb, e1.1, e1.2, e2.1, e2.2, e3.1, e3.2, e4, e5, e6⟩
theorem blk14_off {b c : Nat} {w : World} {cs : Array Value} (h : Blk c cs w) (hne : c ≠ b) (y0 y1 y2 y3 y4 y5 y6 y7 y8 y9 y10 y11 y12 y13 : Value) : Blk c cs ((((((((((((((w.setCell ⟨b, 0, none⟩ y0).setCell ⟨b, 1, none⟩ y1).setCell ⟨b, 2, none⟩ y2).setCell ⟨b, 3, none⟩ y3).setCell ⟨b, 4, none⟩ y4).setCell ⟨b, 5, none⟩ y5).setCell ⟨b, 6, none⟩ y6).setCell ⟨b, 7, none⟩ y7).setCell ⟨b, 8, none⟩ y8).setCell ⟨b, 9, none⟩ y9).setCell ⟨b, 10, none⟩ y10).setCell ⟨b, 11, none⟩ y11).setCell ⟨b, 12, none⟩ y12).setCell ⟨b, 13, none⟩ y13) :=
  (blk_off (blk_off (blk_off (blk_off (blk_off (blk_off (blk_off (blk_off (blk_off (blk_off (blk_off (blk_off (blk_off (blk_off h hne 0 y0) hne 1 y1) hne 2 y2) hne 3 y3) hne 4 y4) hne 5 y5) hne 6 y6) hne 7 y7) hne 8 y8) hne 9 y9) hne 10 y10) hne 11 y11) hne 12 y12) hne 13 y13)
theorem below3 {n b : Nat} {w0 w : World} (h : Below n w0 w) (hn : n ≤ b) (x y z : Value) : Below n w0 (((w.setCell ⟨b, 5, none⟩ x).setCell ⟨b, 6, none⟩ y).setCell ⟨b, 7, none⟩ z) :=
  Below.setCell (p := ⟨b, 7, none⟩) (Below.setCell (p := ⟨b, 6, none⟩) (Below.setCell (p := ⟨b, 5, none⟩) h hn x) hn y) hn z
theorem blk6 {b : Nat} {w : World} {x0 x1 x2 x3 x4 x5 : Value} (h : Blk b #[x0, x1, x2, x3, x4, x5] w) (y0 y1 y2 y3 y4 y5 : Value) :
    Blk b #[y0, y1, y2, y3, y4, y5] ((((((w.setCell ⟨b, 0, none⟩ y0).setCell ⟨b, 1, none⟩ y1).setCell ⟨b, 2, none⟩ y2).setCell ⟨b, 3, none⟩ y3).setCell ⟨b, 4, none⟩ y4).setCell ⟨b, 5, none⟩ y5) :=
  blk_put (blk_put (blk_put (blk_put (blk_put (blk_put h (o := 0) (by simp) y0) (o := 1) (by simp) y1) (o := 2) (by simp) y2) (o := 3) (by simp) y3) (o := 4) (by simp) y4) (o := 5) (by simp) y5
theorem blank_fin {W7 w9 : World} {F B9 : Nat} {x0 x1 x2 x3 x4 x5 y0 y1 y2 y3 y4 y5 vr vw : Value} {R : List Rnd} {x : Int} (hK : Blk F #[x0, x1, x2, x3, x4, x5] w9) (h1 : Made B9 (fun w => RndsAt w vr R) w9) (h2 : Made B9 (fun w => IntsAt w vw [x]) w9) (hF : F < B9) (hW : W7.heap.size ≤ F) (hb : Below W7.heap.size W7 w9) :
    Blk F #[y0, y1, y2, y3, y4, y5] ((((((w9.setCell ⟨F, 0, none⟩ y0).setCell ⟨F, 1, none⟩ y1).setCell ⟨F, 2, none⟩ y2).setCell ⟨F, 3, none⟩ y3).setCell ⟨F, 4, none⟩ y4).setCell ⟨F, 5, none⟩ y5) ∧ RndsAt ((((((w9.setCell ⟨F, 0, none⟩ y0).setCell ⟨F, 1, none⟩ y1).setCell ⟨F, 2, none⟩ y2).setCell ⟨F, 3, none⟩ y3).setCell ⟨F, 4, none⟩ y4).setCell ⟨F, 5, none⟩ y5) vr R ∧
      IntsAt ((((((w9.setCell ⟨F, 0, none⟩ y0).setCell ⟨F, 1, none⟩ y1).setCell ⟨F, 2, none⟩ y2).setCell ⟨F, 3, none⟩ y3).setCell ⟨F, 4, none⟩ y4).setCell ⟨F, 5, none⟩ y5) vw [x] ∧ Below W7.heap.size W7 ((((((w9.setCell ⟨F, 0, none⟩ y0).setCell ⟨F, 1, none⟩ y1).setCell ⟨F, 2, none⟩ y2).setCell ⟨F, 3, none⟩ y3).setCell ⟨F, 4, none⟩ y4).setCell ⟨F, 5, none⟩ y5) := by
  have hh : ∀ b, B9 ≤ b ∧ b < w9.heap.size → ((((((w9.setCell ⟨F, 0, none⟩ y0).setCell ⟨F, 1, none⟩ y1).setCell ⟨F, 2, none⟩ y2).setCell ⟨F, 3, none⟩ y3).setCell ⟨F, 4, none⟩ y4).setCell ⟨F, 5, none⟩ y5).heap[b]? = w9.heap[b]? := fun b hb' => by
    have hne : b ≠ F := by omega
    rw [Below.heap_setCell _ _ _ _ (by exact hne), Below.heap_setCell _ _ _ _ (by exact hne), Below.heap_setCell _ _ _ _ (by exact hne), Below.heap_setCell _ _ _ _ (by exact hne), Below.heap_setCell _ _ _ _ (by exact hne), Below.heap_setCell _ _ _ _ (by exact hne)]
  have one : ∀ {w2 : World} (j : Nat) (v : Value), Below W7.heap.size W7 w2 → Below W7.heap.size W7 (w2.setCell ⟨F, j, none⟩ v) := fun {w2} j v h => h.setCell (p := ⟨F, j, none⟩) hW v
  exact ⟨blk6 hK _ _ _ _ _ _, h1 _ hh, h2 _ hh, one _ _ (one _ _ (one _ _ (one _ _ (one _ _ (one _ _ hb)))))⟩

/-- A count that ends, with its winner and the rounds. -/
theorem count_x {p : Option Addr} {c k : Nat} {T : Int} {vg vl : Value} {gs : List Grp} {lots : List Int} {w : World} (hg : PileAt w vg gs) (hl : IntsAt w vl lots) (h1 : 1 ≤ k) (h7 : k ≤ 7) (t1 : 1 ≤ T) (t3 : T ≤ 3) (hp : PileP k gs) (hlt : Lots k lots) :
    Calls Try.prog 18 #[.agg #[.string ⟨#[99]⟩, .slice p k c, .int .i64 1, .int .i64 1, .int .i64 0, .int .i64 0, .int .i64 T, .int .i64 0, .int .i64 0], vg, vl] w fun e w' => ∃ pr nr cr pw cw x, e = .returned (.tuple #[.agg #[.int .i64 1, .int .i64 1, .int .i64 0, .int .i64 k, .slice pr nr cr, .slice pw 1 cw], .int .i64 0]) ∧
      nr = (countS false (brkS T lots) gs k (List.replicate k true) []).length ∧ Made w.heap.size (fun w => RndsAt w (.slice pr nr cr) (countS false (brkS T lots) gs k (List.replicate k true) [])) w' ∧ Made w.heap.size (fun w => IntsAt w (.slice pw 1 cw) [x]) w' ∧ Hid (∃ r ∈ (countS false (brkS T lots) gs k (List.replicate k true) []).getLast?, r.el = [x]) ∧ Below w.heap.size w w' := by
  refine (count_c (C := conM p k c T) hg hl (okA h1 h7 t1 t3 hp hlt)).mono ?_
  rintro e w' ⟨vr, vw, x, rfl, g1, g2, g3, g4⟩
  obtain ⟨pr, cr, rfl, _, _⟩ := g1.now.shape
  obtain ⟨pw, cw, rfl⟩ := g2.now.shape
  exact ⟨pr, _, cr, pw, cw, x, rfl, rfl, g1, g2, g3, g4⟩
theorem count_len {whole : Bool} {brk : List (List Int) → List Int → Int} {gs : List Grp} : ∀ (m : Nat) (rem : List Bool) (ear : List (List Int)), (countS whole brk gs m rem ear).length ≤ m
  | 0, _, _ => Nat.le_refl _
  | m + 1, rem, ear => by
    unfold countS
    split
    · simp
    · simp only [List.length_cons]
      have := count_len (whole := whole) (brk := brk) (gs := gs) m (rem.set (exclS brk gs rem ear).toNat false) (ear ++ [votesS gs rem])
      omega

set_option maxHeartbeats 1000000 in
theorem blank_few (n code ties kk : Int) {v : Value} {L : List (List Int)} {w : World} (hv : GridAt w v L) (hf : fewB L = false) :
    Calls Try.prog 6 #[.int .i64 n, .int .i64 code, .int .i64 ties, v, .int .i64 kk] w fun e w' => e = .returned (.bool true) ∧ Below w.heap.size w w' := by
  have FW := few_c hv
  rw [hf] at FW
  have FW := Lib.hid FW
  clear hv hf
  go_enter Try.func6, Try.ntmps6
  go_wp2_with (first
    | (go_at_call 11; ((with_reducible refine FW.out.mono ?_); rintro _ w1 ⟨rfl, rfl⟩))
    | (go_at_call 12; ((with_reducible refine (awake26 _).mono ?_); rintro _ w2 ⟨rfl, hb2⟩)))
  go_ret
  exact ⟨rfl, hb2⟩
theorem mod_one20 (x : Int) : ∃ k : Nat, 1 + x % 20 = (k : Int) ∧ 1 ≤ k ∧ k ≤ 20 := ⟨(1 + x % 20).toNat, by omega, by omega, by omega⟩

set_option maxRecDepth 100000 in
set_option maxHeartbeats 8000000 in
theorem walk_IrvBlank (n code : Int) (hc1 : -9223372036854775808 ≤ code) (hc2 : code ≤ 9223372036854775807) (ties : Int) {v : Value} {L : List (List Int)} {w : World} (hv : GridAt w v L) (kk : Int) :
    Calls Try.prog 6 #[.int .i64 n, .int .i64 code, .int .i64 ties, v, .int .i64 kk] w fun e w' => e = .returned (.bool true) ∧ Below w.heap.size w w' := by
  cases hf : fewB L with
  | false => exact blank_few n code ties kk hv hf
  | true =>
  obtain ⟨hf1, hf2⟩ := few_true.1 hf
  have FW := few_c hv
  rw [hf] at FW
  have FW := Lib.hid FW
  obtain ⟨k, hk, k1, k7⟩ := mod_one n 7 (by omega)
  obtain ⟨z, hz⟩ : ∃ z, n % ((7 : Nat) : Int) = z := ⟨_, rfl⟩
  rw [hz] at hk
  have M7 : Hid (∀ w, Calls Try.prog 16 #[.int .i64 n, .int .i64 7] w fun e w' => e = .returned (.int .i64 z) ∧ w = w') := Lib.hid (fun w => by rw [← hz]; exact mod_c n 7 (by omega) (by omega) w)
  have e2 : IntKind.i64.wrap (k : Int) = k := w64 (by omega) (by omega)
  obtain ⟨K, hK, K1, K20⟩ := mod_one20 kk
  obtain ⟨y, hy⟩ : ∃ y, kk % 20 = y := ⟨_, rfl⟩
  rw [hy] at hK
  have M20 : Hid (∀ w, Calls Try.prog 16 #[.int .i64 kk, .int .i64 20] w fun e w' => e = .returned (.int .i64 y) ∧ w = w') := Lib.hid (fun w => by rw [← hy]; exact mod_c kk 20 (by omega) (by omega) w)
  have e3 : IntKind.i64.wrap (K : Int) = K := w64 (by omega) (by omega)
  obtain ⟨T, hT⟩ : ∃ T, 1 + ties % 3 = T := ⟨_, rfl⟩
  have t1 : 1 ≤ T := by omega
  have t3 : T ≤ 3 := by omega
  have CO : Hid (∀ wq, Calls Try.prog 19 #[.int .i64 0, .int .i64 k, .int .i64 0, .int .i64 0, .int .i64 ties] wq fun e w' => ∃ p c, e = .returned (conC (conM p k c T)) ∧ Below wq.heap.size wq w') := Lib.hid (fun wq => by rw [← hT]; exact contest_c k (by omega) ties wq)
  have PL := Lib.hid (fun wq (h : Below w.heap.size w wq) => mpile_c (hv.keep h) k1 k7 hf1 hf2)
  have hgp := pile_pile (L := L) k1 hf2
  have htot : totS (pileB k L) = L.length := by unfold pileB; rw [make_tot, List.length_map]
  have P1 := Lib.hid (fun wq => perm_x k (by omega) code hc1 hc2 wq)
  obtain ⟨gs, hgs⟩ : ∃ gs, pileB k L = gs := ⟨_, rfl⟩
  rw [hgs] at PL hgp htot
  have hl1 := lots_perm k code
  obtain ⟨lots, hlo⟩ : ∃ l, permS k code = l := ⟨_, rfl⟩
  rw [hlo] at P1 hl1
  have hpos := hgp.pos
  have hgr : ∀ g ∈ gs, 0 ≤ g.n ∧ g.n ≤ 1000000 := fun g hg => by have := hpos g hg; have := mem_tot hpos hg; omega
  have hgl : gs.length ≤ 1000000 := by have := len_tot hpos; omega
  have AD := Lib.hid (fun wq vg (h1 : PileAt wq vg gs) => radd_c (p := []) (K := (K : Int)) h1 (RowAt.nil wq) hgr (by omega) hgl)
  have hg2 : PileP k (addS gs [] (K : Int)) := hgp.add ⟨fun c hc => by simp at hc, List.nodup_nil⟩ (by omega) (by omega)
  have CT := Lib.hid (fun wq p c vg vl (h1 : PileAt wq vg gs) (h2 : IntsAt wq vl lots) => count_x (p := p) (c := c) h1 h2 k1 k7 t1 t3 hgp hl1)
  have CU := Lib.hid (fun wq p c vg vl (h1 : PileAt wq vg (addS gs [] (K : Int))) (h2 : IntsAt wq vl lots) => count_x (p := p) (c := c) h1 h2 k1 k7 t1 t3 hg2 hl1)
  rw [blank_count] at CU
  have hne := count_ne (whole := false) (brk := brkS T lots) (gs := gs) (k := k - 1) (rem := List.replicate k true) (ear := [])
  rw [show k - 1 + 1 = k by omega] at hne
  have hln := count_len (whole := false) (brk := brkS T lots) (gs := gs) k (List.replicate k true) []
  have hrr : ∀ r ∈ countS false (brkS T lots) gs k (List.replicate k true) [], 0 ≤ r.exh ∧ r.exh ≤ 100000 := fun r hr => count_exh hgp r hr
  obtain ⟨R, hR⟩ : ∃ R, countS false (brkS T lots) gs k (List.replicate k true) [] = R := ⟨_, rfl⟩
  rw [hR] at CT CU hne hln hrr
  rw [List.length_map] at CU
  obtain ⟨nr, hnr⟩ : ∃ n, R.length = n := ⟨_, rfl⟩
  have hnp := List.length_pos_iff.2 hne
  have EQ : Hid (∀ wq va vb (l : List Int), IntsAt wq va l → IntsAt wq vb l → Calls Try.prog 13 #[va, vb] wq fun e w' => e = .returned (.bool true) ∧ Below wq.heap.size wq w') := Lib.hid (fun wq va vb l h1 h2 => by
    have := eq_c h1 h2
    rwa [decide_eq_true rfl] at this)
  obtain ⟨pv, nv, cv, rfl⟩ : ∃ p n c, v = .slice p n c := by obtain ⟨p, c, e⟩ := hv.shp; exact ⟨_, _, _, e⟩
  have HWIN : Hid (∀ x x', (∃ r ∈ R.getLast?, r.el = [x]) → (∃ r ∈ (R.map (moreR K)).getLast?, r.el = [x']) → x' = x) := Lib.hid (fun x x' ⟨r, hr, hx⟩ ⟨r', hr', hx'⟩ => by
    rw [List.getLast?_map, Option.mem_def] at hr'
    rw [Option.mem_def] at hr
    rw [hr] at hr'
    simp only [Option.map_some, Option.some.injEq] at hr'
    rw [← hr'] at hx'
    have : [x] = [x'] := hx.symm.trans hx'
    simpa using this.symm)
  have HRR := Lib.hid hrr
  clear hz hy hT hgp htot hgs hf hf1 hf2 hv hlo hpos hgr hgl hg2 hl1 hR hne hrr
  rw [hnr] at CT CU hnp hln
  have HNR := Lib.hid hnr
  clear hnr
  unfold conC conM conV nmV at CO
  simp only at CO
  go_enter Try.func6, Try.ntmps6
  go_wp2_with (first
    | (go_at_call 11; ((with_reducible refine FW.out.mono ?_); rintro _ w1 ⟨rfl, rfl⟩))
    | (go_at_call 16; ((with_reducible refine (M7.out _).mono ?_); rintro _ w2 ⟨rfl, rfl⟩))
    | (go_at_call 16; ((with_reducible refine (M20.out _).mono ?_); rintro _ w2 ⟨rfl, rfl⟩))
    | (go_at_call 19; ((with_reducible refine (CO.out _).mono ?_); rintro _ w3 ⟨p, c, rfl, hb3⟩)))
  have K3 := Lib.hid (Blk.new w3 #[.string ⟨#[99]⟩, .slice p k c, .int .i64 1, .int .i64 1, .int .i64 0, .int .i64 0, .int .i64 T, .int .i64 0, .int .i64 0] 40)
  have b3 : Below w.heap.size w (w3.alloc (.cells #[.string ⟨#[99]⟩, .slice p k c, .int .i64 1, .int .i64 1, .int .i64 0, .int .i64 0, .int .i64 T, .int .i64 0, .int .i64 0] 40)) := below_al hb3 _
  obtain ⟨W3, hW3⟩ : ∃ W3, w3.alloc (.cells #[.string ⟨#[99]⟩, .slice p k c, .int .i64 1, .int .i64 1, .int .i64 0, .int .i64 0, .int .i64 T, .int .i64 0, .int .i64 0] 40) = W3 := ⟨_, rfl⟩
  rw [hW3] at K3 b3 ⊢
  clear hW3
  obtain ⟨B, hB⟩ : ∃ B, w3.heap.size = B := ⟨_, rfl⟩
  rw [hB] at K3 ⊢
  clear hB
  go_wp2_with (first
    | (go_at_call 17; ((with_reducible refine (PL.out _ b3).mono ?_); rintro _ w4 ⟨v4, rfl, h4, hb4⟩))
    | (go_at_call 20; ((with_reducible refine (P1.out _).mono ?_); rintro _ w5 ⟨v5, rfl, h5, _, hb5⟩; have b5 := bel2' hb4 hb5; obtain ⟨x0, x1, x2, x3, x4, x5, x6, x7, x8⟩ := nine_cells (K3.out.keep b5); have h45 := h4.keep hb5))
    | (go_at_call 18; ((with_reducible refine (CT.out _ _ _ _ _ h45 h5).mono ?_); rintro _ w6 ⟨pr, nr0, cr, pw, cw, x, rfl, rfl, h6, h6w, hwin, hb6⟩; have h6 := h6.now; have h6w := h6w.now; have b6 := bel2' b5 hb6; have h46 := h45.keep hb6; have h56 := h5.keep hb6)))
  have K7 := Lib.hid (Blk.new w6 #[.int .i64 1, .int .i64 1, .int .i64 0, .int .i64 k, .slice pr nr0 cr, .slice pw 1 cw] 34)
  have b7 : Below W3.heap.size W3 (w6.alloc (.cells #[.int .i64 1, .int .i64 1, .int .i64 0, .int .i64 k, .slice pr nr0 cr, .slice pw 1 cw] 34)) := below_al b6 _
  have a7 : Below w6.heap.size w6 (w6.alloc (.cells #[.int .i64 1, .int .i64 1, .int .i64 0, .int .i64 k, .slice pr nr0 cr, .slice pw 1 cw] 34)) := below_al (Below.refl _ _) _
  have H47 := Lib.hid (h46.keep a7)
  have H57 := Lib.hid (h56.keep a7)
  have H7 := Lib.hid (h6.keep a7)
  have H7w := Lib.hid (h6w.keep a7)
  obtain ⟨W7, hW7⟩ : ∃ W, w6.alloc (.cells #[.int .i64 1, .int .i64 1, .int .i64 0, .int .i64 k, .slice pr nr0 cr, .slice pw 1 cw] 34) = W := ⟨_, rfl⟩
  rw [hW7] at K7 b7 H47 H57 H7 H7w ⊢
  clear hW7 a7 h4 h45 h46 h5 h56 h6 h6w x0 x1 x2 x3 x4 x5 x6 x7 x8
  obtain ⟨B7, hB7⟩ : ∃ B, w6.heap.size = B := ⟨_, rfl⟩
  rw [hB7] at K7 ⊢
  clear hB7
  have K37 := Lib.hid (fun W' (h : Below W7.heap.size W7 W') => nine_cells ((K3.out.keep b7).keep h))
  have ADD : Hid (∀ wq, Below W7.heap.size W7 wq → Calls Try.prog 33 #[v4, .slice none 0 0, .int .i64 K] wq fun e w' => ∃ v', e = .returned v' ∧ PileAt w' v' (addS gs [] (K : Int)) ∧ Below W7.heap.size W7 w' ∧ Below wq.heap.size wq w') := Lib.hid (fun wq h => (AD.out wq v4 (H47.out.keep h)).mono (by rintro e w' ⟨v', rfl, g1, g2⟩; exact ⟨v', rfl, g1, bel2' h g2, g2⟩))
  have CUU : Hid (∀ wq vg, PileAt wq vg (addS gs [] (K : Int)) → Below W7.heap.size W7 wq → Calls Try.prog 18 #[.agg #[.string ⟨#[99]⟩, .slice p k c, .int .i64 1, .int .i64 1, .int .i64 0, .int .i64 0, .int .i64 T, .int .i64 0, .int .i64 0], vg, v5] wq fun e w' => ∃ pr2 cr2 pw2 cw2, e = .returned (.tuple #[.agg #[.int .i64 1, .int .i64 1, .int .i64 0, .int .i64 k, .slice pr2 nr0 cr2, .slice pw2 1 cw2], .int .i64 0]) ∧ Made wq.heap.size (fun w => RndsAt w (.slice pr2 nr0 cr2) (R.map (moreR K))) w' ∧ Made wq.heap.size (fun w => IntsAt w (.slice pw2 1 cw2) [x]) w' ∧ Below W7.heap.size W7 w' ∧ Below wq.heap.size wq w') := Lib.hid (fun wq vg h1 h => by
    refine (CU.out wq p c vg v5 h1 (H57.out.keep h)).mono ?_
    rintro e w' ⟨pr2, nr2, cr2, pw2, cw2, x', rfl, rfl, g1, g2, g3, g4⟩
    have := HWIN.out x x' hwin.out g3.out
    subst this
    exact ⟨pr2, cr2, pw2, cw2, rfl, g1, g2, bel2' h g4, g4⟩)
  have KA : Hid (Blk W7.heap.size #[.int .i64 0, .int .i64 0, .int .i64 0, .int .i64 0, .slice none 0 0, .slice none 0 0] (W7.alloc (.cells #[.int .i64 0, .int .i64 0, .int .i64 0, .int .i64 0, .slice none 0 0, .slice none 0 0] 34)).drew) := Lib.hid (Blk.new W7 #[.int .i64 0, .int .i64 0, .int .i64 0, .int .i64 0, .slice none 0 0, .slice none 0 0] 34).drew
  have BA : Below W7.heap.size W7 (W7.alloc (.cells #[.int .i64 0, .int .i64 0, .int .i64 0, .int .i64 0, .slice none 0 0, .slice none 0 0] 34)).drew := (below_al (Below.refl _ _) _).drew
  have BD : Below W7.heap.size W7 W7.drew := (Below.refl _ _).drew
  go_cut [16, 17] (fun s16 s17 wx => ∃ F pr2 cr2 pw2 cw2, s16 = .pointer (some ⟨F, 0, none⟩) ∧ s17 = .int .i64 0 ∧ Hid (Blk F #[.int .i64 1, .int .i64 1, .int .i64 0, .int .i64 k, .slice pr2 nr0 cr2, .slice pw2 1 cw2] wx ∧ RndsAt wx (.slice pr2 nr0 cr2) (R.map (moreR K)) ∧ IntsAt wx (.slice pw2 1 cw2) [x] ∧ Below W7.heap.size W7 wx))
  case first =>
    go_region_held3 (fun w' => w'.cell? ⟨B, 0, none⟩ = some (.string ⟨#[99]⟩) ∧ w'.cell? ⟨B, 1, none⟩ = some (.slice p k c) ∧ w'.cell? ⟨B, 2, none⟩ = some (.int .i64 1) ∧ w'.cell? ⟨B, 3, none⟩ = some (.int .i64 1) ∧ w'.cell? ⟨B, 4, none⟩ = some (.int .i64 0) ∧ w'.cell? ⟨B, 5, none⟩ = some (.int .i64 0) ∧ w'.cell? ⟨B, 6, none⟩ = some (.int .i64 T) ∧ w'.cell? ⟨B, 7, none⟩ = some (.int .i64 0) ∧ w'.cell? ⟨B, 8, none⟩ = some (.int .i64 0))
      (first | exact K37.out _ (by (repeat (first | with_reducible exact hb9 | with_reducible exact hb8 | with_reducible exact z9 | with_reducible exact z8 | with_reducible exact Below.refl _ _ | with_reducible exact Nat.le_refl _ | with_reducible refine Below.drew ?_ | with_reducible refine Below.alloc ?_ ?_ _ | with_reducible refine Below.setCell ?_ ?_ _ | (simp; done) | (simp; omega)))))
      (first
        | (go_at_call 33; ((with_reducible refine (ADD.out (W7.alloc (.cells #[.int .i64 0, .int .i64 0, .int .i64 0, .int .i64 0, .slice none 0 0, .slice none 0 0] 34)).drew BA).mono ?_); rintro _ w8 ⟨v8, rfl, h8, hb8, hc8⟩; have z8 := hb8.size; have KA8 := Lib.hid (KA.out.keep hc8)))
        | (go_at_call 33; ((with_reducible refine (ADD.out W7.drew BD).mono ?_); rintro _ w8 ⟨v8, rfl, h8, hb8, hc8⟩; have z8 := hb8.size))
        | (go_at_call 18; ((with_reducible refine (CUU.out (w8.alloc (.cells #[.int .i64 0, .int .i64 0, .int .i64 0, .int .i64 0, .slice none 0 0, .slice none 0 0] 34)) v8 (h8.keep (below_al (Below.refl _ _) _)) (below_al hb8 _)).mono ?_); rintro _ w9 ⟨pr2, cr2, pw2, cw2, rfl, h9, h9w, hb9, hc9⟩; have z9 := hb9.size; have KB9 := Lib.hid ((Blk.new w8 #[.int .i64 0, .int .i64 0, .int .i64 0, .int .i64 0, .slice none 0 0, .slice none 0 0] 34).keep hc9); obtain ⟨k0, k1, k2, k3, k4, k5⟩ := cells6 KB9.out; obtain ⟨m0, m1, m2, m3, m4, m5⟩ := frees6 KB9.out))
        | (go_at_call 18; ((with_reducible refine (CUU.out w8 v8 h8 hb8).mono ?_); rintro _ w9 ⟨pr2, cr2, pw2, cw2, rfl, h9, h9w, hb9, hc9⟩; have z9 := hb9.size; have KA9 := Lib.hid (KA8.out.keep hc9); obtain ⟨k0, k1, k2, k3, k4, k5⟩ := cells6 KA9.out; obtain ⟨m0, m1, m2, m3, m4, m5⟩ := frees6 KA9.out))
        | (go_at_call 18; ((with_reducible refine (CUU.out w8 v8 h8 hb8).mono ?_); rintro _ w9 ⟨pr2, cr2, pw2, cw2, rfl, h9, h9w, hb9, hc9⟩; have z9 := hb9.size)))
    all_goals
      go_wp2_with fail
      go_meet
      first
        | (refine ⟨w9.heap.size, pr2, cr2, pw2, cw2, (by with_reducible rfl), (by with_reducible rfl), ?_⟩; exact Lib.hid ⟨Blk.new w9 _ _, h9.now.keep (below_al (Below.refl _ _) _), h9w.now.keep (below_al (Below.refl _ _) _), below_al hb9 _⟩)
        | (refine ⟨W7.heap.size, pr2, cr2, pw2, cw2, (by with_reducible rfl), (by with_reducible rfl), ?_⟩; exact Lib.hid (blank_fin KA9.out h9 h9w KA8.out.1 (Nat.le_refl _) hb9))
        | (refine ⟨w8.heap.size, pr2, cr2, pw2, cw2, (by with_reducible rfl), (by with_reducible rfl), ?_⟩; exact Lib.hid (blank_fin KB9.out h9 h9w (by simp) z8 hb9))
  case rest =>
    obtain ⟨F, pr2, cr2, pw2, cw2, rfl, rfl, hU⟩ := hcut
    have HK7 := Lib.hid (K7.out.keep hU.out.2.2.2)
    have HKF := Lib.hid hU.out.1
    have t4 : wc.cell? ⟨B7, 4, none⟩ = some (.slice pr nr0 cr) := HK7.out.2.1 4
    have t5 : wc.cell? ⟨B7, 5, none⟩ = some (.slice pw 1 cw) := HK7.out.2.1 5
    have u4 : wc.cell? ⟨F, 4, none⟩ = some (.slice pr2 nr0 cr2) := HKF.out.2.1 4
    have u5 : wc.cell? ⟨F, 5, none⟩ = some (.slice pw2 1 cw2) := HKF.out.2.1 5
    have HT := Lib.hid (H7.out.keep hU.out.2.2.2)
    have HTW := Lib.hid (H7w.out.keep hU.out.2.2.2)
    have HU := Lib.hid hU.out.2.1
    have HUW := Lib.hid hU.out.2.2.1
    have hbc := Lib.hid (bel2' (bel2' b3 b7) hU.out.2.2.2)
    have q0 : ((nr0 : Int) != (nr0 : Int)) = false := by simp
    have q1 : ((nr0 : Int) == 0) = false := by rw [beq_eq_false_iff_ne]; omega
    clear KA BA BD ADD CUU K37 CT CU AD HWIN hwin hU
    go_wp2_with (go_at_call 13; ((with_reducible refine (EQ.out _ _ _ _ HTW.out HUW.out).mono ?_); rintro _ w10 ⟨rfl, hb10⟩; have t4' := cell_keep hb10 t4))
    have HT := Lib.hid (HT.out.keep hb10)
    have HU := Lib.hid (HU.out.keep hb10)
    have t4 := Lib.hid (cell_keep hb10 t4)
    have u4 := Lib.hid (cell_keep hb10 u4)
    have hbc := Lib.hid (bel2' hbc.out hb10)
    clear t4' t5 u5 HTW HUW hb10
    go_loopw [18] (fun iv wr => ∃ i : Nat, i ≤ nr0 ∧ iv = .int .i64 i ∧ Below w10.heap.size w10 wr) (fun iv _ => nr0 - (intOf iv).toNat)
    case atStart => exact ⟨0, by omega, rfl, Below.refl _ _⟩
    case round =>
      obtain ⟨i, hi, rfl, hbel⟩ := hrel
      have t4r := cell_keep hbel t4.out
      have u4r := cell_keep hbel u4.out
      by_cases hlt : i < nr0
      · have hltz : (i : Int) < (nr0 : Int) := by omega
        obtain ⟨r, hr⟩ : ∃ r, R[i]? = some r := ⟨_, List.getElem?_eq_getElem (by rw [HNR.out]; exact hlt)⟩
        have hr2 : (R.map (moreR K))[i]? = some (moreR K r) := by rw [List.getElem?_map, hr]; rfl
        have hrm : r ∈ R := List.mem_of_getElem? hr
        have hex := HRR.out r hrm
        obtain ⟨g, off, a, b, q1, q2, e1, e2, s1, s2, l1, l2, l3, e4, en1, hc1, hc2, V1, C1⟩ := rnd_at (HT.out.keep hbel) hr
        obtain ⟨g', off', a', b', q1', q2', e1', e2', s1', s2', l1', l2', l3', e5, en2, hc3, hc4, V2, C2⟩ := rnd_at (HU.out.keep hbel) hr2
        clear en1 en2
        subst e4
        subst e5
        rw [HNR.out] at hc1
        rw [List.length_map, HNR.out] at hc3
        obtain ⟨pa, na, ca, pb, nb, cb, pq1, nq1, cq1, pq2, nq2, cq2, pe1, ne1, ce1, pe2, ne2, ce2, ps1, ns1, cs1, ps2, ns2, cs2, pl1, nl1, cl1, pl2, nl2, cl2, pl3, nl3, cl3, rfl, rfl, rfl, rfl, rfl, rfl, rfl, rfl, rfl, rfl, rfl⟩ := rndv_sh V1
        obtain ⟨pa', na', ca', pb', nb', cb', pq1', nq1', cq1', pq2', nq2', cq2', pe1', ne1', ce1', pe2', ne2', ce2', ps1', ns1', cs1', ps2', ns2', cs2', pl1', nl1', cl1', pl2', nl2', cl2', pl3', nl3', cl3', rfl, rfl, rfl, rfl, rfl, rfl, rfl, rfl, rfl, rfl, rfl⟩ := rndv_sh V2
        have V1 := Lib.hid V1
        have V2 := Lib.hid V2
        have C1 := Lib.hid C1
        have C2 := Lib.hid C2
        have hro := Lib.hid hbel
        have t4h := Lib.hid t4r
        have u4h := Lib.hid u4r
        have HALL : Hid (∀ W', Below wr.heap.size wr W' → W'.cell? ⟨B7, 4, none⟩ = some (.slice (some ⟨g, off, none⟩) nr0 cr) ∧ W'.cell? ⟨F, 4, none⟩ = some (.slice (some ⟨g', off', none⟩) nr0 cr2) ∧ RndC W' g (off + i * 14) (.slice pa na ca) (.slice pb nb cb) (.slice pq1 nq1 cq1) (.slice pq2 nq2 cq2) (.slice pe1 ne1 ce1) (.slice pe2 ne2 ce2) (.slice ps1 ns1 cs1) (.slice ps2 ns2 cs2) (.slice pl1 nl1 cl1) (.slice pl2 nl2 cl2) (.slice pl3 nl3 cl3) ∧ RndC W' g' (off' + i * 14) (.slice pa' na' ca') (.slice pb' nb' cb') (.slice pq1' nq1' cq1') (.slice pq2' nq2' cq2') (.slice pe1' ne1' ce1') (.slice pe2' ne2' ce2') (.slice ps1' ns1' cs1') (.slice ps2' ns2' cs2') (.slice pl1' nl1' cl1') (.slice pl2' nl2' cl2') (.slice pl3' nl3' cl3')) := Lib.hid (fun W' h => ⟨cell_keep h t4h.out, cell_keep h u4h.out, C1.out.keep h, C2.out.keep h⟩)
        unfold RndC at HALL
        obtain ⟨wo, rfl⟩ : ∃ x, x = wr := ⟨_, rfl⟩
        clear hr hr2 hrm hbel
        go_upto_region 13 with fail
        go_cut [19, 20] (fun s19 s20 wx => ∃ X Y, X ≠ Y ∧ s19 = .pointer (some ⟨X, 0, none⟩) ∧ s20 = .pointer (some ⟨Y, 0, none⟩) ∧ wo.heap.size ≤ X ∧ wo.heap.size ≤ Y ∧ Hid (Blk X #[.slice pa na ca, .slice pb nb cb, .bool false, .slice pq1 nq1 cq1, .slice pq2 nq2 cq2, .bool false, .slice pe1 ne1 ce1, .slice pe2 ne2 ce2, .bool false, .slice ps1 ns1 cs1, .slice ps2 ns2 cs2, .slice pl1 nl1 cl1, .slice pl2 nl2 cl2, .slice pl3 nl3 cl3] wx ∧ Blk Y #[.slice pa' na' ca', .slice pb' nb' cb', .bool false, .slice pq1' nq1' cq1', .slice pq2' nq2' cq2', .bool false, .slice pe1' ne1' ce1', .slice pe2' ne2' ce2', .bool false, .slice ps1' ns1' cs1', .slice ps2' ns2' cs2', .slice pl1' nl1' cl1', .slice pl2' nl2' cl2', .slice pl3' nl3' cl3'] wx ∧ Below wo.heap.size wo wx))
        case first =>
          obtain ⟨m0, m1, m2, m3, m4, m5, m6, m7, m8, m9, m10, m11, m12, m13⟩ := frees14 (blk_pair wo #[.slice none 0 0, .slice none 0 0, .bool false, .slice none 0 0, .slice none 0 0, .bool false, .slice none 0 0, .slice none 0 0, .bool false, .slice none 0 0, .slice none 0 0, .slice none 0 0, .slice none 0 0, .slice none 0 0] #[.slice none 0 0, .slice none 0 0, .bool false, .slice none 0 0, .slice none 0 0, .bool false, .slice none 0 0, .slice none 0 0, .bool false, .slice none 0 0, .slice none 0 0, .slice none 0 0, .slice none 0 0, .slice none 0 0] 54 54).1
          obtain ⟨k0, k1, k2, k3, k4, k5, k6, k7, k8, k9, k10, k11, k12, k13⟩ := frees14 (blk_pair wo #[.slice none 0 0, .slice none 0 0, .bool false, .slice none 0 0, .slice none 0 0, .bool false, .slice none 0 0, .slice none 0 0, .bool false, .slice none 0 0, .slice none 0 0, .slice none 0 0, .slice none 0 0, .slice none 0 0] #[.slice none 0 0, .slice none 0 0, .bool false, .slice none 0 0, .slice none 0 0, .bool false, .slice none 0 0, .slice none 0 0, .bool false, .slice none 0 0, .slice none 0 0, .slice none 0 0, .slice none 0 0, .slice none 0 0] 54 54).2.1
          go_region_held3 (fun W' => W'.cell? ⟨B7, 4, none⟩ = some (.slice (some ⟨g, off, none⟩) nr0 cr) ∧ W'.cell? ⟨F, 4, none⟩ = some (.slice (some ⟨g', off', none⟩) nr0 cr2) ∧ (W'.cell? ⟨g, off + i * 14, none⟩ = some (.slice pa na ca) ∧ W'.cell? ⟨g, off + i * 14 + 1, none⟩ = some (.slice pb nb cb) ∧ W'.cell? ⟨g, off + i * 14 + 2, none⟩ = some (.bool false) ∧ W'.cell? ⟨g, off + i * 14 + 3, none⟩ = some (.slice pq1 nq1 cq1) ∧ W'.cell? ⟨g, off + i * 14 + 4, none⟩ = some (.slice pq2 nq2 cq2) ∧ W'.cell? ⟨g, off + i * 14 + 5, none⟩ = some (.bool false) ∧ W'.cell? ⟨g, off + i * 14 + 6, none⟩ = some (.slice pe1 ne1 ce1) ∧ W'.cell? ⟨g, off + i * 14 + 7, none⟩ = some (.slice pe2 ne2 ce2) ∧ W'.cell? ⟨g, off + i * 14 + 8, none⟩ = some (.bool false) ∧ W'.cell? ⟨g, off + i * 14 + 9, none⟩ = some (.slice ps1 ns1 cs1) ∧ W'.cell? ⟨g, off + i * 14 + 10, none⟩ = some (.slice ps2 ns2 cs2) ∧ W'.cell? ⟨g, off + i * 14 + 11, none⟩ = some (.slice pl1 nl1 cl1) ∧ W'.cell? ⟨g, off + i * 14 + 12, none⟩ = some (.slice pl2 nl2 cl2) ∧ W'.cell? ⟨g, off + i * 14 + 13, none⟩ = some (.slice pl3 nl3 cl3)) ∧ (W'.cell? ⟨g', off' + i * 14, none⟩ = some (.slice pa' na' ca') ∧ W'.cell? ⟨g', off' + i * 14 + 1, none⟩ = some (.slice pb' nb' cb') ∧ W'.cell? ⟨g', off' + i * 14 + 2, none⟩ = some (.bool false) ∧ W'.cell? ⟨g', off' + i * 14 + 3, none⟩ = some (.slice pq1' nq1' cq1') ∧ W'.cell? ⟨g', off' + i * 14 + 4, none⟩ = some (.slice pq2' nq2' cq2') ∧ W'.cell? ⟨g', off' + i * 14 + 5, none⟩ = some (.bool false) ∧ W'.cell? ⟨g', off' + i * 14 + 6, none⟩ = some (.slice pe1' ne1' ce1') ∧ W'.cell? ⟨g', off' + i * 14 + 7, none⟩ = some (.slice pe2' ne2' ce2') ∧ W'.cell? ⟨g', off' + i * 14 + 8, none⟩ = some (.bool false) ∧ W'.cell? ⟨g', off' + i * 14 + 9, none⟩ = some (.slice ps1' ns1' cs1') ∧ W'.cell? ⟨g', off' + i * 14 + 10, none⟩ = some (.slice ps2' ns2' cs2') ∧ W'.cell? ⟨g', off' + i * 14 + 11, none⟩ = some (.slice pl1' nl1' cl1') ∧ W'.cell? ⟨g', off' + i * 14 + 12, none⟩ = some (.slice pl2' nl2' cl2') ∧ W'.cell? ⟨g', off' + i * 14 + 13, none⟩ = some (.slice pl3' nl3' cl3')))
            (first | exact HALL.out _ (by repeat (first | with_reducible exact Below.refl _ _ | with_reducible exact Nat.le_refl _ | with_reducible refine Below.drew ?_ | with_reducible refine Below.alloc ?_ ?_ _ | with_reducible refine Below.setCell ?_ ?_ _ | (simp; done) | (simp; omega))))
            (first | fail)
          all_goals
            go_wp2_with fail
            go_meet
            first
              | exact ⟨_, _, by omega, rfl, rfl, by omega, by omega, Lib.hid (blk_pair _ _ _ _ _)⟩
              | exact ⟨_, _, by omega, rfl, rfl, by omega, by omega, Lib.hid ⟨(blk_pair _ _ _ _ _).2.1, (blk_pair _ _ _ _ _).1, (blk_pair _ _ _ _ _).2.2⟩⟩
        case rest =>
          obtain ⟨X, Y, hXY, rfl, rfl, hX, hY, hP⟩ := hcut
          have hYX : Y ≠ X := fun e => hXY e.symm
          have HX := Lib.hid hP.out.1
          have HY := Lib.hid hP.out.2.1
          have HB := Lib.hid hP.out.2.2
          have HE : Hid (∀ W', Below wc.heap.size wc W' → W'.cell? ⟨X, 5, none⟩ = some (.bool false) ∧ W'.cell? ⟨X, 6, none⟩ = some (.slice pe1 ne1 ce1) ∧ W'.cell? ⟨X, 7, none⟩ = some (.slice pe2 ne2 ce2) ∧ W'.cell? ⟨Y, 5, none⟩ = some (.bool false) ∧ W'.cell? ⟨Y, 6, none⟩ = some (.slice pe1' ne1' ce1') ∧ W'.cell? ⟨Y, 7, none⟩ = some (.slice pe2' ne2' ce2')) := Lib.hid (fun W' h => ⟨(HX.out.keep h).2.1 5, (HX.out.keep h).2.1 6, (HX.out.keep h).2.1 7, (HY.out.keep h).2.1 5, (HY.out.keep h).2.1 6, (HY.out.keep h).2.1 7⟩)
          have hN1 := hex.1
          have hN2 := hex.2
          obtain ⟨N, hN⟩ : ∃ N, r.exh.toNat = N := ⟨_, rfl⟩
          have hNe : (r.exh + (K : Int)).toNat = N + K := by omega
          have hNb : N ≤ 100000 := by omega
          have FX : Hid (∀ wq, Below wc.heap.size wc wq → Calls Try.prog 24 #[.agg #[.bool false, .slice pe1 ne1 ce1, .slice pe2 ne2 ce2]] wq (GivesW N wq)) := Lib.hid (fun wq h => by
            have := wfrom_c (V1.out.h.exh.keep (bel2' HB.out h))
            rwa [hN] at this)
          have FY : Hid (∀ wq, Below wc.heap.size wc wq → Calls Try.prog 24 #[.agg #[.bool false, .slice pe1' ne1' ce1', .slice pe2' ne2' ce2']] wq (GivesW (N + K) wq)) := Lib.hid (fun wq h => by
            have := wfrom_c (x := r.exh + (K : Int)) (V2.out.h.exh.keep (bel2' HB.out h))
            rwa [hNe] at this)
          have OF := Lib.hid (fun wq => wof_c K (by omega) wq)
          have AD : Hid (∀ {p1 p2 p3 p4 : Option Addr} {l1 k1 l2 k2 l3 k3 l4 k4 : Nat} {wq : World}, WAt wq p1 l1 k1 p2 l2 k2 N → WAt wq p3 l3 k3 p4 l4 k4 K → Calls Try.prog 25 #[.agg #[.bool false, .slice p1 l1 k1, .slice p2 l2 k2], .agg #[.bool false, .slice p3 l3 k3, .slice p4 l4 k4]] wq (GivesW (N + K) wq)) := Lib.hid (fun h1 h2 => wadd_c h1 h2 (by omega) (by omega))
          have CM : Hid (∀ {p1 p2 p3 p4 : Option Addr} {l1 k1 l2 k2 l3 k3 l4 k4 : Nat} {wq : World}, WAt wq p1 l1 k1 p2 l2 k2 (N + K) → WAt wq p3 l3 k3 p4 l4 k4 (N + K) → Calls Try.prog 26 #[.agg #[.bool false, .slice p1 l1 k1, .slice p2 l2 k2], .agg #[.bool false, .slice p3 l3 k3, .slice p4 l4 k4]] wq fun e w' => e = .returned (.int .i64 0) ∧ Below wq.heap.size wq w') := Lib.hid (fun h1 h2 => by
            have := wcmp_c h1 h2 (by omega) (by omega)
            rwa [show cmpI ((N + K : Nat) : Int) ((N + K : Nat) : Int) = 0 by unfold cmpI; rw [if_neg (by omega), if_neg (by omega)]] at this)
          have SR : Hid (∀ wq, Below wo.heap.size wo wq → Calls Try.prog 34 #[.agg #[.slice pa na ca, .slice pb nb cb, .bool false, .slice pq1 nq1 cq1, .slice pq2 nq2 cq2, .bool false, .slice pe1' ne1' ce1', .slice pe2' ne2' ce2', .bool false, .slice ps1 ns1 cs1, .slice ps2 ns2 cs2, .slice pl1 nl1 cl1, .slice pl2 nl2 cl2, .slice pl3 nl3 cl3], .agg #[.slice pa' na' ca', .slice pb' nb' cb', .bool false, .slice pq1' nq1' cq1', .slice pq2' nq2' cq2', .bool false, .slice pe1' ne1' ce1', .slice pe2' ne2' ce2', .bool false, .slice ps1' ns1' cs1', .slice ps2' ns2' cs2', .slice pl1' nl1' cl1', .slice pl2' nl2' cl2', .slice pl3' nl3' cl3']] wq fun e w' => e = .returned (.bool true) ∧ Below wq.heap.size wq w') := Lib.hid (fun wq h =>
            sameround_c (r := moreR K r) ⟨⟨V1.out.h.votes.keep h, V1.out.h.keep.keep h, V1.out.h.quota.keep h, V2.out.h.exh.keep h, V1.out.h.sur.keep h⟩, V1.out.el.keep h, V1.out.ex.keep h, V1.out.ti.keep h⟩ (V2.out.keep h))
          have BD : Below wc.heap.size wc wc.drew := (Below.refl _ _).drew
          clear hP hN hNe hN1 hN2 hex
          go_wp2_with fail
          go_region_held3 (fun W' => W'.cell? ⟨X, 5, none⟩ = some (.bool false) ∧ W'.cell? ⟨X, 6, none⟩ = some (.slice pe1 ne1 ce1) ∧ W'.cell? ⟨X, 7, none⟩ = some (.slice pe2 ne2 ce2) ∧ W'.cell? ⟨Y, 5, none⟩ = some (.bool false) ∧ W'.cell? ⟨Y, 6, none⟩ = some (.slice pe1' ne1' ce1') ∧ W'.cell? ⟨Y, 7, none⟩ = some (.slice pe2' ne2' ce2'))
            (first | with_reducible exact HE.out _ b24 | with_reducible exact HE.out _ b23 | with_reducible exact HE.out _ b22 | with_reducible exact HE.out _ b21 | with_reducible exact HE.out _ b20 | with_reducible exact HE.out _ BD)
            (first
              | (go_at_call 24; ((with_reducible refine (FX.out _ BD).mono ?_); rintro _ w20 ⟨pA, lA, kA, pB, lB, kB, rfl, hA, hb20⟩; have b20 := bel2' BD hb20))
              | (go_at_call 27; ((with_reducible refine (OF.out _).mono ?_); rintro _ w21 ⟨pC, lC, kC, pD, lD, kD, rfl, hC, hb21⟩; have b21 := bel2' b20 hb21; have hA1 := hA.keep hb21))
              | (go_at_call 25; ((with_reducible refine (AD.out hA1 hC).mono ?_); rintro _ w22 ⟨pE, lE, kE, pG, lG, kG, rfl, hE, hb22⟩; have b22 := bel2' b21 hb22))
              | (go_at_call 24; ((with_reducible refine (FY.out _ b22).mono ?_); rintro _ w23 ⟨pH, lH, kH, pI, lI, kI, rfl, hH, hb23⟩; have b23 := bel2' b22 hb23; have hE1 := hE.keep hb23))
              | (go_at_call 26; ((with_reducible refine (CM.out hE1 hH).mono ?_); rintro _ w24 ⟨rfl, hb24⟩; have b24 := bel2' b23 hb24)))
          all_goals
            have HX24 := HX.out.keep b24
            have HY24 := HY.out.keep b24
            obtain ⟨x0, x1, x2, x3, x4, x5, x6, x7, x8, x9, x10, x11, x12, x13⟩ := cells14 HX24
            obtain ⟨f0, f1, f2, f3, f4, f5, f6, f7, f8, f9, f10, f11, f12, f13⟩ := frees14 HX24
            obtain ⟨y0, y1, y2, y3, y4, y5, y6, y7, y8, y9, y10, y11, y12, y13⟩ := cells14 HY24
            have HB24 := Lib.hid (bel2' HB.out b24)
            clear HX24 HY24
            go_wp2_with (first
              | (go_at_call 34; ((with_reducible refine (SR.out _ (below3 HB24.out hX _ _ _)).mono ?_); rintro _ w25 ⟨rfl, hb25⟩; have HB25 := bel2' (below3 HB24.out hX _ _ _) hb25)))
            go_roundw
            case rel => exact ⟨i + 1, by omega, by go_num, bel2' hro.out HB25⟩
            case measure => simp [intOf] <;> omega
      · obtain rfl : nr0 = i := by omega
        have hltz : ¬ (nr0 : Int) < (nr0 : Int) := by omega
        go_wp2_with (first
          | (go_at_call 12; ((with_reducible refine (awake26 _).mono ?_); rintro _ wA ⟨rfl, hbA⟩)))
        go_ret
        exact ⟨rfl, bel2' (bel2' hbc.out hbel) hbA⟩

end Go.Proofs.Ytbnhgmikegdppaa

namespace Go.Proofs.Ytbnhgmikegdppaa.irvBlank
open Go.ChangeShapes Go.WideShapes Go.ChangeAt Go.RowKit
open Go.ChangeMaps (open_string shut_string)

theorem own : ownKnob Try.prog.godebug = none := by kernel_rfl
theorem laidOut : laidOutB Try.prog = true := by kernel_rfl

set_option maxRecDepth 100000 in
theorem lifted (os : Os) (started : os.Started) (H : Type) (enc : TypeId × Value → H) :
    ReturnsInHanded {} Try.checked os 6 .any (Rows.irvBlankSpec.pre6 enc Try.prog Try.f6 Rows.irvBlankRow.domain false) (Rows.irvBlankSpec.post enc Try.prog Try.f6 false true false false) := by
  refine returnsInHanded_of_change (C := Try.checked) own started (by kernel_rfl) Try.func6
    (ChangeSpec.witness6 (enc := enc) (C := Try.checked) false ⟨#[], #[.int .i64 0, .int .i64 0, .int .i64 0, .slice none 0 0, .int .i64 0], []⟩ 8 (by kernel_rfl) (by kernel_rfl) (by kernel_rfl) (by kernel_rfl)) ?_
  intro W base args ds gs before hval0 hW hcnd _
  have hval := hval0
  have hW' := hW
  obtain ⟨p, q, hA0, hV, rfl, hfz, hnd⟩ := hW
  have hA : DataW.TrodAll enc Try.prog W 0 (fun _ => true) true Try.f6.params.toList args.toList ds p := hA0
  rw [Try.params6] at hA hval
  obtain ⟨v0, vs0, d0, ds0, p0, q0, hargs, rfl, rfl, h0, r0⟩ := trodAll_cons hA
  obtain ⟨v1, vs1, d1, ds1, p1, q1, rfl, rfl, rfl, h1, r1⟩ := trodAll_cons r0
  obtain ⟨v2, vs2, d2, ds2, p2, q2, rfl, rfl, rfl, h2, r2⟩ := trodAll_cons r1
  obtain ⟨v3, vs3, d3, ds3, p3, q3, rfl, rfl, rfl, h3, r3⟩ := trodAll_cons r2
  obtain ⟨v4, vs4, d4, ds4, p4, q4, rfl, rfl, rfl, h4, r4⟩ := trodAll_cons r3
  obtain ⟨rfl, rfl, rfl⟩ := trodAll_nil r4
  obtain rfl : args = #[v0, v1, v2, v3, v4] := by cases args; simp_all
  obtain ⟨rfl, rfl⟩ := trodVars_none hV
  obtain ⟨a0, rfl, rfl, rfl, w0⟩ := open_int Try.underlying3 (hval 0 3 v0 rfl rfl) h0
  obtain ⟨a1, rfl, rfl, rfl, w1⟩ := open_int Try.underlying3 (hval 1 3 v1 rfl rfl) h1
  have wf1 := w1
  simp [Lit.wf] at wf1
  have lo1 : IntKind.i64.min = -9223372036854775808 := by decide
  have hi1 : IntKind.i64.max = 9223372036854775807 := by decide
  obtain ⟨a2, rfl, rfl, rfl, w2⟩ := open_int Try.underlying3 (hval 2 3 v2 rfl rfl) h2
  have lt3 : ∀ x ∈ p3, x.block < W.heap.size := by obtain ⟨m, hm⟩ := h3; exact DataW.trod_lt m _ _ _ hm
  obtain ⟨l3, n3⟩ := grid_open (hval 3 23 v3 rfl rfl) h3
  obtain ⟨a4, rfl, rfl, rfl, w4⟩ := open_int Try.underlying3 (hval 4 3 v4 rfl rfl) h4
  clear hA0 hval0
  refine (walk_IrvBlank a0 a1 (by omega) (by omega) a2 n3 a4).mono fun e W' ⟨he, bel⟩ => ?_
  subst he
  exact ⟨_, rfl, _, _, _, [], _, [], hW', trodAll_mk1 (shut_bool Try.underlying4 _), (trodAll_cons_mk (shut_int Try.underlying3 w0) (trodAll_cons_mk (shut_int Try.underlying3 w1) (trodAll_cons_mk (shut_int Try.underlying3 w2) (trodAll_cons_mk (Below.trod laidOut (by kernel_rfl) (of_decide_eq_true (by kernel_rfl)) h3 bel lt3) (trodAll_cons_mk (shut_int Try.underlying3 w4) trodAll_mk0))))), rfl, bel.frame _, fun h => by cases h⟩

theorem over : Rows.irvBlankRow.holds Try.pinned (OpenSpec.ofChange Rows.irvBlankSpec) :=
  OpenClaim.holds_of_wide 6 Try.f6 rfl rfl rfl rfl rfl rfl rfl ⟨rfl, rfl, rfl, rfl, rfl⟩ rfl rfl rfl rfl rfl (by kernel_rfl) Try.func6 (by kernel_rfl)
    (of_decide_eq_true (by kernel_rfl)) (by unfold Func.isWrapper; first | (rw [if_pos (by decide +kernel)]; kernel_rfl) | (rw [if_neg (by decide +kernel)]; exact ⟨rfl, rfl⟩))
    (fun os started H enc _ => lifted os started H enc)

end Go.Proofs.Ytbnhgmikegdppaa.irvBlank
namespace Go.Proofs.Ytbnhgmikegdppaa
/-- IrvBlank: the given statement. -/
theorem irvBlank_proved : Rows.IrvBlankSaid := irvBlank.over
#print axioms irvBlank_proved
end Go.Proofs.Ytbnhgmikegdppaa
