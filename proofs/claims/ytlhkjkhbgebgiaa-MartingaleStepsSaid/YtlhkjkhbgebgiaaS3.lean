/- Confirmed for any risk limit of four limbs: the good ones. -/
import Derived.Test.YtlhkjkhbgebgiaaV5
import Derived.Deep.RegionHeld3
namespace Go.Proofs.Ytlhkjkhbgebgiaa
open Go.RowKit Go.Proofs.Kit Go.Proofs.Nums


set_option maxRecDepth 100000 in
set_option maxHeartbeats 8000000 in
theorem conf4_c {H : Nat} {s : Mt} {w : World} {v : Value} {q : Q} (hm : MeterAt w H s) (hs : s.Ok) (hr : RatN w v q 4) (hf : q.Nf) (hn : q.neg = false) (h0 : 0 < q.n) (h1 : q.n ≤ q.d) :
    Calls Try.prog 14 #[.pointer (some ⟨H, 0, none⟩), v] w fun e w' => e = .returned (.bool (Mt.conf s q)) ∧ Below w.heap.size w w' := by
  have hr2 := hr
  obtain ⟨p1, l1, k1, p2, l2, k2, rfl, gn, gd⟩ := hr.shape
  have hval : validR q.neg (limbs q.n) (limbs q.d) = true := by
    have e : Q.mk' q.neg (val (limbs q.n)) (val (limbs q.d)) = q := by rw [val_limbs, val_limbs]; exact Q.nf_norm hf
    unfold validR
    rw [e]
    exact eqR_self _ _ _
  have VA : Hid (∀ w', Below w.heap.size w w' → Calls Try.prog 26 #[.agg #[.bool q.neg, .slice p1 l1 k1, .slice p2 l2 k2]] w' fun e w'' => e = .returned (.bool true) ∧ Below w'.heap.size w' w'') := Lib.hid (fun w' h => by
    have := valid_r (L := 4) (hr2.keep h).l (hr2.keep h).lens.1 (hr2.keep h).lens.2 (by omega) (by omega)
    rw [hval] at this
    exact this)
  have O0 : Hid (∀ w, Calls Try.prog 28 #[.int .i64 0] w (GivesN (Q.of 0) 4 w)) := Lib.hid (fun w => gn_of (of_r (z := 0) (by omega) (by omega) (by omega) (by omega)))
  have O1 : Hid (∀ w, Calls Try.prog 28 #[.int .i64 1] w (GivesN (Q.of 1) 4 w)) := Lib.hid (fun w => gn_of (of_r (z := 1) (by omega) (by omega) (by omega) (by omega)))
  obtain ⟨c2, hc2⟩ : ∃ c, Q.cmp q (Q.of 1) = c := ⟨_, rfl⟩
  have hcle : c2 ≤ 0 := by rw [← hc2]; exact Q.cmp_one_le hf hn h1
  have CM0 : Hid (∀ v w', Below w.heap.size w w' → RatN w' v (Q.of 0) 4 → Calls Try.prog 27 #[.agg #[.bool q.neg, .slice p1 l1 k1, .slice p2 l2 k2], v] w' fun e w'' => e = .returned (.int .i64 1) ∧ Below w'.heap.size w' w'') := Lib.hid (fun v w' h g => by
    have := cmp_r (hr2.keep h).at g.at (by omega) (by omega)
    rw [Q.cmp_zero_pos hf hn h0] at this
    exact this)
  have CM1 : Hid (∀ v w', Below w.heap.size w w' → RatN w' v (Q.of 1) 4 → Calls Try.prog 27 #[.agg #[.bool q.neg, .slice p1 l1 k1, .slice p2 l2 k2], v] w' fun e w'' => e = .returned (.int .i64 c2) ∧ Below w'.heap.size w' w'') := Lib.hid (fun v w' h g => by
    have := cmp_r (hr2.keep h).at g.at (by omega) (by omega)
    rw [hc2] at this
    exact this)
  have hd2 : decide ((0 : Int) < c2) = false := decide_eq_false (by omega)
  have hb1 := hs.b1
  have hb2 := hs.b2
  obtain ⟨c0, c1, c2', c3, c4, c5, c6, c7⟩ := hm.eight
  have MH := Lib.hid hm
  obtain ⟨bn, hbn⟩ : ∃ m : Nat, s.best = m := ⟨s.best.toNat, by omega⟩
  have OB : Hid (∀ w, Calls Try.prog 31 #[.int .u64 bn] w fun e w' => ∃ v', e = .returned v' ∧ Nrm w' v' bn 2 ∧ Below w.heap.size w w') := Lib.hid (fun w => nrm_of (by omega) (by omega))
  have OO : Hid (∀ w, Calls Try.prog 31 #[.int .u64 4294967296] w fun e w' => ∃ v', e = .returned v' ∧ Nrm w' v' 4294967296 2 ∧ Below w.heap.size w w') := Lib.hid (fun w => nrm_ofz (n := 4294967296) rfl (by omega) (by omega))
  have MB : Hid (∀ v w', Below w.heap.size w w' → Nrm w' v bn 2 → Calls Try.prog 30 #[v, .slice p1 l1 k1] w' fun e w'' => ∃ v', e = .returned v' ∧ Nrm w'' v' (bn * q.n) 6 ∧ Below w'.heap.size w' w'') := Lib.hid (fun v w' h g => mul_num g.num (gn.keep h).num (by omega) (by omega))
  have MO : Hid (∀ v w', Below w.heap.size w w' → Nrm w' v 4294967296 2 → Calls Try.prog 30 #[v, .slice p2 l2 k2] w' fun e w'' => ∃ v', e = .returned v' ∧ Nrm w'' v' (4294967296 * q.d) 6 ∧ Below w'.heap.size w' w'') := Lib.hid (fun v w' h g => mul_num g.num (gd.keep h).num (by omega) (by omega))
  obtain ⟨cc, hcc⟩ : ∃ c, cmpN (bn * q.n) (4294967296 * q.d) = c := ⟨_, rfl⟩
  have CN : Hid (∀ va vb w', Nrm w' va (bn * q.n) 6 → Nrm w' vb (4294967296 * q.d) 6 → Calls Try.prog 29 #[va, vb] w' fun e w'' => e = .returned (.int .i64 cc) ∧ Below w'.heap.size w' w'') := Lib.hid (fun va vb w' g g' => by
    have := cmp_num g.num g'.num (by omega) (by omega)
    rw [hcc] at this
    exact this)
  have hdec : Hid (decide ((0 : Int) ≤ cc) = decide (4294967296 * (q.d : Int) ≤ s.best * (q.n : Int))) := Lib.hid (by
    rw [hbn, ← hcc]
    obtain ⟨P, hP⟩ : ∃ P, bn * q.n = P := ⟨_, rfl⟩
    have hPi : (bn : Int) * (q.n : Int) = (P : Int) := by rw [← hP]; exact (Int.natCast_mul _ _).symm
    rw [hP, hPi, decide_eq_decide]
    unfold cmpN
    by_cases g1 : P < 4294967296 * q.d
    · rw [if_pos g1]; constructor <;> intro h <;> omega
    · rw [if_neg g1]
      constructor
      · intro _; omega
      · intro _; split <;> decide)
  have HC : Hid (Mt.conf s q = (s.pr || decide ((0 : Int) ≤ cc))) := Lib.hid (by rw [hdec.out]; rfl)
  rw [HC.out]
  rw [hbn] at c6 hb1 hb2
  have u1 : IntKind.u64.wrap (bn : Int) = (bn : Int) := wu64 (by omega) (by omega)
  obtain ⟨tt, htt⟩ : ∃ t : Bool, decide ((0 : Int) ≤ cc) = t := ⟨_, rfl⟩
  rw [htt]
  obtain ⟨qs, hqs⟩ : ∃ t, q.neg = t := ⟨_, rfl⟩
  rw [hqs] at VA CM0 CM1
  rw [hqs]
  obtain ⟨pr, hpr⟩ : ∃ t, s.pr = t := ⟨_, rfl⟩
  rw [hpr] at c7
  rw [hpr]
  clear hm hs hr hr2 hf hn h0 h1 gn gd hval hc2 hcle hbn hcc hdec HC hqs hpr c0 c1 c2' c3 c4 c5
  have BR := Lib.hid (Blk.new w #[.bool qs, .slice p1 l1 k1, .slice p2 l2 k2] 30).drew
  have S0 := Lib.hid (And.intro (cell_alloc_old (o := .cells #[.bool qs, .slice p1 l1 k1, .slice p2 l2 k2] 30) c6) (cell_alloc_old (o := .cells #[.bool qs, .slice p1 l1 k1, .slice p2 l2 k2] 30) c7))
  have hBd : Below w.heap.size w (w.alloc (.cells #[.bool qs, .slice p1 l1 k1, .slice p2 l2 k2] 30)) := (Below.refl _ _).alloc (Nat.le_refl _) _
  have hB0 := hBd.drew
  cases pr
  · cases tt
    all_goals
      go_enter Try.func14, Try.ntmps14
      go_wp2_with fail
      go_region_held3 (fun w' => w'.cell? ⟨w.heap.size, 0, none⟩ = some (.bool qs) ∧ w'.cell? ⟨w.heap.size, 1, none⟩ = some (.slice p1 l1 k1) ∧ w'.cell? ⟨w.heap.size, 2, none⟩ = some (.slice p2 l2 k2))
        (first | exact BR.out.three | exact BR1.out.three | exact BR2.out.three | exact BR3.out.three | exact BR4.out.three | exact BR5.out.three)
        (first
          | (go_at_call 26; ((with_reducible refine (VA.out _ hB0).mono ?_); rintro e w1 ⟨rfl, hb1⟩; have hB1 := bel2' hB0 hb1; have BR1 := Lib.hid (BR.out.keep hb1); have S1 := Lib.hid (And.intro (cell_keep (hb1) (S0.out.1 : (w.alloc _).drew.cell? _ = _)) (cell_keep hb1 (S0.out.2 : (w.alloc _).drew.cell? _ = _)))))
          | (go_at_call 28; ((with_reducible refine (O0.out _).mono ?_); rintro e w2 ⟨p3, l3, k3, p4, l4, k4, rfl, hv2, hb2⟩; have hB2 := bel2' hB1 hb2; have BR2 := Lib.hid (BR1.out.keep hb2); have S2 := Lib.hid (And.intro (cell_keep hb2 S1.out.1) (cell_keep hb2 S1.out.2))))
          | (go_at_call 27; ((with_reducible refine (CM0.out _ _ hB2 hv2).mono ?_); rintro e w3 ⟨rfl, hb3⟩; have hB3 := bel2' hB2 hb3; have BR3 := Lib.hid (BR2.out.keep hb3); have S3 := Lib.hid (And.intro (cell_keep hb3 S2.out.1) (cell_keep hb3 S2.out.2))))
          | (go_at_call 28; ((with_reducible refine (O1.out _).mono ?_); rintro e w4 ⟨p5, l5, k5, p6, l6, k6, rfl, hv4, hb4⟩; have hB4 := bel2' hB3 hb4; have BR4 := Lib.hid (BR3.out.keep hb4); have S4 := Lib.hid (And.intro (cell_keep hb4 S3.out.1) (cell_keep hb4 S3.out.2))))
          | (go_at_call 27; ((with_reducible refine (CM1.out _ _ hB4 hv4).mono ?_); rintro e w5 ⟨rfl, hb5⟩; have hB5 := bel2' hB4 hb5; have BR5 := Lib.hid (BR4.out.keep hb5); have S5 := Lib.hid (And.intro (cell_keep hb5 S4.out.1) (cell_keep hb5 S4.out.2)))))
      all_goals
        go_wp2_with fail
        have BX := Lib.hid (Blk.three BR5.out.drew)
        have SX := Lib.hid (And.intro S5.out.1 (And.intro S5.out.2 (And.intro BR5.out.three.2.1 BR5.out.three.2.2)))
        have hBX := hB5.drew
        go_region_held3 (fun w' => w'.cell? ⟨H, 6, none⟩ = some (.int .i64 bn) ∧ w'.cell? ⟨H, 7, none⟩ = some (.bool false) ∧ w'.cell? ⟨w.heap.size, 1, none⟩ = some (.slice p1 l1 k1) ∧ w'.cell? ⟨w.heap.size, 2, none⟩ = some (.slice p2 l2 k2))
          (first | exact SX.out | exact keep4 SX.out (by assumption) | exact S6.out | exact S7.out | exact S8.out | exact S9.out | exact S10.out)
          (first
            | (go_at_call 31; ((with_reducible refine (OB.out _).mono ?_); rintro e w6 ⟨v6, rfl, hv6, hb6⟩; have hB6 := bel2' hBX hb6; have S6 := Lib.hid (keep4 (w := w5.drew) SX.out hb6)))
            | (go_at_call 30; ((with_reducible refine (MB.out _ _ hB6 hv6).mono ?_); rintro e w7 ⟨v7, rfl, hv7, hb7⟩; have hB7 := bel2' hB6 hb7; have S7 := Lib.hid (keep4 S6.out hb7)))
            | (go_at_call 31; ((with_reducible refine (OO.out _).mono ?_); rintro e w8 ⟨v8, rfl, hv8, hb8⟩; have hB8 := bel2' hB7 hb8; have S8 := Lib.hid (keep4 S7.out hb8); have hv78 := hv7.keep hb8))
            | (go_at_call 30; ((with_reducible refine (MO.out _ _ hB8 hv8).mono ?_); rintro e w9 ⟨v9, rfl, hv9, hb9⟩; have hB9 := bel2' hB8 hb9; have S9 := Lib.hid (keep4 S8.out hb9); have hv79 := hv78.keep hb9))
            | (go_at_call 29; ((with_reducible refine (CN.out _ _ _ hv79 hv9).mono ?_); rintro e w10 ⟨rfl, hb10⟩; have hB10 := bel2' hB9 hb10; have S10 := Lib.hid (keep4 S9.out hb10))))
        all_goals
          go_wp2_with fail
          go_ret
          exact ⟨rfl, hB10⟩
  · go_enter Try.func14, Try.ntmps14
    go_wp2_with fail
    go_region_held3 (fun w' => w'.cell? ⟨w.heap.size, 0, none⟩ = some (.bool qs) ∧ w'.cell? ⟨w.heap.size, 1, none⟩ = some (.slice p1 l1 k1) ∧ w'.cell? ⟨w.heap.size, 2, none⟩ = some (.slice p2 l2 k2))
      (first | exact BR.out.three | exact BR1.out.three | exact BR2.out.three | exact BR3.out.three | exact BR4.out.three | exact BR5.out.three)
      (first
        | (go_at_call 26; ((with_reducible refine (VA.out _ hB0).mono ?_); rintro e w1 ⟨rfl, hb1⟩; have hB1 := bel2' hB0 hb1; have BR1 := Lib.hid (BR.out.keep hb1); have S1 := Lib.hid (And.intro (cell_keep (hb1) (S0.out.1 : (w.alloc _).drew.cell? _ = _)) (cell_keep hb1 (S0.out.2 : (w.alloc _).drew.cell? _ = _)))))
        | (go_at_call 28; ((with_reducible refine (O0.out _).mono ?_); rintro e w2 ⟨p3, l3, k3, p4, l4, k4, rfl, hv2, hb2⟩; have hB2 := bel2' hB1 hb2; have BR2 := Lib.hid (BR1.out.keep hb2); have S2 := Lib.hid (And.intro (cell_keep hb2 S1.out.1) (cell_keep hb2 S1.out.2))))
        | (go_at_call 27; ((with_reducible refine (CM0.out _ _ hB2 hv2).mono ?_); rintro e w3 ⟨rfl, hb3⟩; have hB3 := bel2' hB2 hb3; have BR3 := Lib.hid (BR2.out.keep hb3); have S3 := Lib.hid (And.intro (cell_keep hb3 S2.out.1) (cell_keep hb3 S2.out.2))))
        | (go_at_call 28; ((with_reducible refine (O1.out _).mono ?_); rintro e w4 ⟨p5, l5, k5, p6, l6, k6, rfl, hv4, hb4⟩; have hB4 := bel2' hB3 hb4; have BR4 := Lib.hid (BR3.out.keep hb4); have S4 := Lib.hid (And.intro (cell_keep hb4 S3.out.1) (cell_keep hb4 S3.out.2))))
        | (go_at_call 27; ((with_reducible refine (CM1.out _ _ hB4 hv4).mono ?_); rintro e w5 ⟨rfl, hb5⟩; have hB5 := bel2' hB4 hb5; have BR5 := Lib.hid (BR4.out.keep hb5); have S5 := Lib.hid (And.intro (cell_keep hb5 S4.out.1) (cell_keep hb5 S4.out.2)))))
    all_goals
      go_wp2_with fail
      have c6' := S5.out.1
      have c7' := S5.out.2
      go_region
      all_goals
        go_wp2_with fail
        go_ret
        exact ⟨rfl, by first | exact hB5.drew | exact hB5⟩

end Go.Proofs.Ytlhkjkhbgebgiaa
