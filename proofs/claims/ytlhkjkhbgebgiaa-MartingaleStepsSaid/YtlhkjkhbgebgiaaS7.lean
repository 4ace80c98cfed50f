/- The reference's Confirmed. -/
import Derived.Test.YtlhkjkhbgebgiaaS2
import Derived.Test.YtlhkjkhbgebgiaaS6
import Derived.Test.YtlhkjkhbgebgiaaR11
import Derived.Deep.RegionHeld3
namespace Go.Proofs.Ytlhkjkhbgebgiaa
open Go.RowKit Go.Proofs.Kit Go.Proofs.Nums

set_option maxRecDepth 100000 in
set_option maxHeartbeats 8000000 in
theorem rconf_c {R : Nat} {s : Mt} {v : Value} {neg : Bool} {a b : List Nat} {w : World} (hm : RMeterAt w R s) (hs : s.Ok) (hr : RatL w v neg a b) (ha : a.length ≤ 4) (hb : b.length ≤ 4) :
    Calls Try.prog 25 #[.pointer (some ⟨R, 0, none⟩), v] w fun e w' => e = .returned (.bool (riskR neg a b && Mt.conf s ⟨neg, val a, val b⟩)) ∧ Below w.heap.size w w' := by
  have hr2 := hr
  obtain ⟨vn, vd, rfl, gn, gd⟩ := hr
  obtain ⟨p1, k1, rfl⟩ := gn.shape
  obtain ⟨p2, k2, rfl⟩ := gd.shape
  obtain ⟨c0, c1, c2, c3, c4, c5, c6, c7⟩ := Blk.eight hm
  have hb1 := hs.b1
  have hb2 := hs.b2
  obtain ⟨rk, hrk⟩ : ∃ t, riskR neg a b = t := ⟨_, rfl⟩
  have RK : Hid (∀ w', Below w.heap.size w w' → Calls Try.prog 34 #[.agg #[.bool neg, .slice p1 a.length k1, .slice p2 b.length k2]] w' fun e w'' => e = .returned (.bool rk) ∧ Below w'.heap.size w' w'') := Lib.hid (fun w' h => by
    rw [← hrk]
    exact rrisk_c (hr2.keep h) ha hb)
  rw [hrk]
  obtain ⟨bn, hbn⟩ : ∃ m : Nat, s.best = m := ⟨s.best.toNat, by omega⟩
  obtain ⟨na, hna⟩ : ∃ m : Nat, val a = m := ⟨_, rfl⟩
  obtain ⟨nb, hnb⟩ : ∃ m : Nat, val b = m := ⟨_, rfl⟩
  have Na : Num w (.slice p1 a.length k1) na 4 := by rw [← hna]; exact Num.of gn ha
  have Nb : Num w (.slice p2 b.length k2) nb 4 := by rw [← hnb]; exact Num.of gd hb
  have la := num_bits Na
  have lb := num_bits Nb
  have lbn : (bitsN bn).length ≤ 64 := bits_len_le _ 64 (Nat.lt_of_lt_of_le (show bn < 18446744073709551616 by omega) (by decide))
  have l1n : (bitsN 4294967296).length ≤ 64 := bits_len_le _ 64 (by decide)
  have WB : Hid (∀ w', Calls Try.prog 36 #[.int .u64 bn] w' fun e w'' => ∃ v', e = .returned v' ∧ BitAt w'' v' (bitsN bn) ∧ Below w'.heap.size w' w'') := Lib.hid (fun w' => word_n rfl (by omega))
  have WO : Hid (∀ w', Calls Try.prog 36 #[.int .u64 4294967296] w' fun e w'' => ∃ v', e = .returned v' ∧ BitAt w'' v' (bitsN 4294967296) ∧ Below w'.heap.size w' w'') := Lib.hid (fun w' => word_n rfl (by omega))
  have FA : Hid (∀ w', Below w.heap.size w w' → Calls Try.prog 37 #[.slice p1 a.length k1] w' fun e w'' => ∃ v', e = .returned v' ∧ BitAt w'' v' (bitsN na) ∧ Below w'.heap.size w' w'') := Lib.hid (fun w' h => from_n (Na.keep h) (by omega))
  have FB : Hid (∀ w', Below w.heap.size w w' → Calls Try.prog 37 #[.slice p2 b.length k2] w' fun e w'' => ∃ v', e = .returned v' ∧ BitAt w'' v' (bitsN nb) ∧ Below w'.heap.size w' w'') := Lib.hid (fun w' h => from_n (Nb.keep h) (by omega))
  have MA : Hid (∀ va vb w', BitAt w' va (bitsN bn) → BitAt w' vb (bitsN na) → Calls Try.prog 35 #[va, vb] w' fun e w'' => ∃ v', e = .returned v' ∧ BitAt w'' v' (bitsN (bn * na)) ∧ Below w'.heap.size w' w'') := Lib.hid (fun va vb w' h h' => rmul_b va vb _ _ w' h h' (by omega) (by omega))
  have MB : Hid (∀ va vb w', BitAt w' va (bitsN 4294967296) → BitAt w' vb (bitsN nb) → Calls Try.prog 35 #[va, vb] w' fun e w'' => ∃ v', e = .returned v' ∧ BitAt w'' v' (bitsN (4294967296 * nb)) ∧ Below w'.heap.size w' w'') := Lib.hid (fun va vb w' h h' => rmul_b va vb _ _ w' h h' (by omega) (by omega))
  obtain ⟨cc, hcc⟩ : ∃ c, cmpN (bn * na) (4294967296 * nb) = c := ⟨_, rfl⟩
  have hna2 : na < 2 ^ 128 := Nat.lt_of_lt_of_le Na.lt (by decide)
  have hnb2 : nb < 2 ^ 128 := Nat.lt_of_lt_of_le Nb.lt (by decide)
  have lp1 : (bitsN (bn * na)).length ≤ 20000 := Nat.le_trans (bits_len_le _ 192 (Nat.lt_of_lt_of_le (Nat.mul_lt_mul'' (show bn < 2 ^ 64 by omega) hna2) (by decide))) (by omega)
  have lp2 : (bitsN (4294967296 * nb)).length ≤ 20000 := Nat.le_trans (bits_len_le _ 192 (Nat.lt_of_lt_of_le (Nat.mul_lt_mul'' (show 4294967296 < 2 ^ 64 by decide) hnb2) (by decide))) (by omega)
  have CN : Hid (∀ va vb w', BitAt w' va (bitsN (bn * na)) → BitAt w' vb (bitsN (4294967296 * nb)) → Calls Try.prog 38 #[va, vb] w' fun e w'' => e = .returned (.int .i64 cc) ∧ Below w'.heap.size w' w'') := Lib.hid (fun va vb w' h h' => rcmp_b va vb _ _ w' h h' (Lib.hid lp1) (Lib.hid lp2) (Lib.hid hcc))
  have hdec : Hid (decide ((0 : Int) ≤ cc) = decide (4294967296 * (nb : Int) ≤ s.best * (na : Int))) := Lib.hid (by
    rw [hbn, ← hcc]
    obtain ⟨P, hP⟩ : ∃ P, bn * na = P := ⟨_, rfl⟩
    have hPi : (bn : Int) * (na : Int) = (P : Int) := by rw [← hP]; exact (Int.natCast_mul _ _).symm
    rw [hP, hPi, decide_eq_decide]
    unfold cmpN
    by_cases g1 : P < 4294967296 * nb
    · rw [if_pos g1]; constructor <;> intro h <;> omega
    · rw [if_neg g1]
      constructor
      · intro _; omega
      · intro _; split <;> decide)
  have HC : Hid (Mt.conf s ⟨neg, val a, val b⟩ = (s.pr || decide ((0 : Int) ≤ cc))) := Lib.hid (by rw [hdec.out, ← hna, ← hnb]; rfl)
  rw [HC.out]
  rw [hbn] at c6 hb1 hb2
  have u1 : IntKind.u64.wrap (bn : Int) = (bn : Int) := wu64 (by omega) (by omega)
  obtain ⟨tt, htt⟩ : ∃ t : Bool, decide ((0 : Int) ≤ cc) = t := ⟨_, rfl⟩
  rw [htt]
  obtain ⟨pr, hpr⟩ : ∃ t, s.pr = t := ⟨_, rfl⟩
  rw [hpr] at c7
  rw [hpr]
  obtain ⟨l1, hl1⟩ : ∃ l, a.length = l := ⟨_, rfl⟩
  obtain ⟨l2, hl2⟩ : ∃ l, b.length = l := ⟨_, rfl⟩
  rw [hl1] at FA
  rw [hl2] at FB
  rw [hl1, hl2] at RK
  rw [hl1, hl2]
  clear hm hs hr2 gn gd ha hb hrk hbn hna hnb Na Nb la lb lbn l1n hcc hna2 hnb2 lp1 lp2 hdec HC hpr hl1 hl2 c0 c1 c2 c3 c4 c5
  have BR := Lib.hid (Blk.new w #[.bool neg, .slice p1 l1 k1, .slice p2 l2 k2] 30)
  obtain ⟨m0, m1, m2⟩ := BR.out.three
  have S0 := Lib.hid (And.intro (cell_alloc_old (o := .cells #[.bool neg, .slice p1 l1 k1, .slice p2 l2 k2] 30) c6) (cell_alloc_old (o := .cells #[.bool neg, .slice p1 l1 k1, .slice p2 l2 k2] 30) c7))
  have hBd : Below w.heap.size w (w.alloc (.cells #[.bool neg, .slice p1 l1 k1, .slice p2 l2 k2] 30)) := (Below.refl _ _).alloc (Nat.le_refl _) _
  cases rk
  · go_enter Try.func25, Try.ntmps25
    go_wp2_with (go_at_call 34; ((with_reducible refine (RK.out _ hBd).mono ?_); rintro e w1 ⟨rfl, hb1⟩; have hB1 := bel2' hBd hb1))
    go_ret
    exact ⟨rfl, hB1⟩
  · cases pr
    · go_enter Try.func25, Try.ntmps25
      go_wp2_with (go_at_call 34; ((with_reducible refine (RK.out _ hBd).mono ?_); rintro e w1 ⟨rfl, hb1⟩; have hB1 := bel2' hBd hb1; have BR1 := Lib.hid (BR.out.keep hb1); have S1 := Lib.hid (And.intro (cell_keep hb1 (S0.out.1 : (w.alloc _).cell? _ = _)) (cell_keep hb1 (S0.out.2 : (w.alloc _).cell? _ = _)))))
      clear m0 m1 m2
      have SX := Lib.hid (And.intro S1.out.1 (And.intro S1.out.2 (And.intro BR1.out.three.2.1 BR1.out.three.2.2)))
      have hBX := hB1.drew
      go_region_held3 (fun w' => w'.cell? ⟨R, 6, none⟩ = some (.int .i64 bn) ∧ w'.cell? ⟨R, 7, none⟩ = some (.bool false) ∧ w'.cell? ⟨w.heap.size, 1, none⟩ = some (.slice p1 l1 k1) ∧ w'.cell? ⟨w.heap.size, 2, none⟩ = some (.slice p2 l2 k2))
        (first | exact SX.out | exact keep4 SX.out (by assumption) | exact S2.out | exact S3.out | exact S4.out)
        (first
          | (go_at_call 36; ((with_reducible refine (WB.out _).mono ?_); rintro e w2 ⟨v2, rfl, hv2, hb2⟩; have hB2 := bel2' hBX hb2; have S2 := Lib.hid (keep4 (w := w1.drew) SX.out hb2)))
          | (go_at_call 37; ((with_reducible refine (FA.out _ hB2).mono ?_); rintro e w3 ⟨v3, rfl, hv3, hb3⟩; have hB3 := bel2' hB2 hb3; have S3 := Lib.hid (keep4 S2.out hb3); have hv23 := hv2.keep hb3))
          | (go_at_call 35; ((with_reducible refine (MA.out _ _ _ hv23 hv3).mono ?_); rintro e w4 ⟨v4, rfl, hv4, hb4⟩; have hB4 := bel2' hB3 hb4; have S4 := Lib.hid (keep4 S3.out hb4))))
      all_goals
        go_wp2_with fail
        have SY := Lib.hid S4.out
        have hBY := hB4.drew
        have hv4d := hv4.keep (Below.refl _ _).drew
        go_region_held3 (fun w' => w'.cell? ⟨R, 6, none⟩ = some (.int .i64 bn) ∧ w'.cell? ⟨R, 7, none⟩ = some (.bool false) ∧ w'.cell? ⟨w.heap.size, 1, none⟩ = some (.slice p1 l1 k1) ∧ w'.cell? ⟨w.heap.size, 2, none⟩ = some (.slice p2 l2 k2))
          (first | exact SY.out | exact keep4 SY.out (by assumption) | exact S5.out | exact S6.out | exact S7.out)
          (first
            | (go_at_call 36; ((with_reducible refine (WO.out _).mono ?_); rintro e w5 ⟨v5, rfl, hv5, hb5⟩; have hB5 := bel2' hBY hb5; have S5 := Lib.hid (keep4 (w := w4.drew) SY.out hb5)))
            | (go_at_call 37; ((with_reducible refine (FB.out _ hB5).mono ?_); rintro e w6 ⟨v6, rfl, hv6, hb6⟩; have hB6 := bel2' hB5 hb6; have S6 := Lib.hid (keep4 S5.out hb6); have hv56 := hv5.keep hb6))
            | (go_at_call 35; ((with_reducible refine (MB.out _ _ _ hv56 hv6).mono ?_); rintro e w7 ⟨v7, rfl, hv7, hb7⟩; have hB7 := bel2' hB6 hb7; have S7 := Lib.hid (keep4 S6.out hb7))))
        all_goals
          have hv47 := ((hv4d.keep hb5).keep hb6).keep hb7
          obtain ⟨t0, t1, t2, t3⟩ := S7.out
          go_wp2_with (go_at_call 38; ((with_reducible refine (CN.out _ _ _ hv47 hv7).mono ?_); rintro e w8 ⟨rfl, hb8⟩; have hB8 := bel2' hB7 hb8))
          go_ret
          first
            | exact ⟨rfl, hB8⟩
            | exact ⟨rfl, hB7⟩
            | exact ⟨rfl, hB7.drew⟩
    · go_enter Try.func25, Try.ntmps25
      go_wp2_with (go_at_call 34; ((with_reducible refine (RK.out _ hBd).mono ?_); rintro e w1 ⟨rfl, hb1⟩; have hB1 := bel2' hBd hb1; have BR1 := Lib.hid (BR.out.keep hb1); have S1 := Lib.hid (And.intro (cell_keep hb1 (S0.out.1 : (w.alloc _).cell? _ = _)) (cell_keep hb1 (S0.out.2 : (w.alloc _).cell? _ = _)))))
      clear m0 m1 m2
      have SX := Lib.hid (And.intro S1.out.1 (And.intro S1.out.2 (And.intro BR1.out.three.2.1 BR1.out.three.2.2)))
      have hBX := hB1.drew
      go_region_held3 (fun w' => w'.cell? ⟨R, 6, none⟩ = some (.int .i64 bn) ∧ w'.cell? ⟨R, 7, none⟩ = some (.bool true) ∧ w'.cell? ⟨w.heap.size, 1, none⟩ = some (.slice p1 l1 k1) ∧ w'.cell? ⟨w.heap.size, 2, none⟩ = some (.slice p2 l2 k2))
        (first | exact SX.out | exact keep4 SX.out (by assumption) | exact S2.out | exact S3.out | exact S4.out)
        (first
          | (go_at_call 36; ((with_reducible refine (WB.out _).mono ?_); rintro e w2 ⟨v2, rfl, hv2, hb2⟩; have hB2 := bel2' hBX hb2; have S2 := Lib.hid (keep4 (w := w1.drew) SX.out hb2)))
          | (go_at_call 37; ((with_reducible refine (FA.out _ hB2).mono ?_); rintro e w3 ⟨v3, rfl, hv3, hb3⟩; have hB3 := bel2' hB2 hb3; have S3 := Lib.hid (keep4 S2.out hb3); have hv23 := hv2.keep hb3))
          | (go_at_call 35; ((with_reducible refine (MA.out _ _ _ hv23 hv3).mono ?_); rintro e w4 ⟨v4, rfl, hv4, hb4⟩; have hB4 := bel2' hB3 hb4; have S4 := Lib.hid (keep4 S3.out hb4))))
      all_goals
        go_wp2_with fail
        have SY := Lib.hid S4.out
        have hBY := hB4.drew
        have hv4d := hv4.keep (Below.refl _ _).drew
        go_region_held3 (fun w' => w'.cell? ⟨R, 6, none⟩ = some (.int .i64 bn) ∧ w'.cell? ⟨R, 7, none⟩ = some (.bool true) ∧ w'.cell? ⟨w.heap.size, 1, none⟩ = some (.slice p1 l1 k1) ∧ w'.cell? ⟨w.heap.size, 2, none⟩ = some (.slice p2 l2 k2))
          (first | exact SY.out | exact keep4 SY.out (by assumption) | exact S5.out | exact S6.out | exact S7.out)
          (first
            | (go_at_call 36; ((with_reducible refine (WO.out _).mono ?_); rintro e w5 ⟨v5, rfl, hv5, hb5⟩; have hB5 := bel2' hBY hb5; have S5 := Lib.hid (keep4 (w := w4.drew) SY.out hb5)))
            | (go_at_call 37; ((with_reducible refine (FB.out _ hB5).mono ?_); rintro e w6 ⟨v6, rfl, hv6, hb6⟩; have hB6 := bel2' hB5 hb6; have S6 := Lib.hid (keep4 S5.out hb6); have hv56 := hv5.keep hb6))
            | (go_at_call 35; ((with_reducible refine (MB.out _ _ _ hv56 hv6).mono ?_); rintro e w7 ⟨v7, rfl, hv7, hb7⟩; have hB7 := bel2' hB6 hb7; have S7 := Lib.hid (keep4 S6.out hb7))))
        all_goals
          have hv47 := ((hv4d.keep hb5).keep hb6).keep hb7
          obtain ⟨t0, t1, t2, t3⟩ := S7.out
          go_wp2_with (go_at_call 38; ((with_reducible refine (CN.out _ _ _ hv47 hv7).mono ?_); rintro e w8 ⟨rfl, hb8⟩; have hB8 := bel2' hB7 hb8))
          go_ret
          first
            | exact ⟨rfl, hB8⟩
            | exact ⟨rfl, hB7⟩
            | exact ⟨rfl, hB7.drew⟩

end Go.Proofs.Ytlhkjkhbgebgiaa
