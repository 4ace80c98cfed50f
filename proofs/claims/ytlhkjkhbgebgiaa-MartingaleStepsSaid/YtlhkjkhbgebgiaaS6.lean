/- The reference's Risk: which Ratios are risk limits. -/
import Derived.Test.YtlhkjkhbgebgiaaS4
import Derived.Test.YtlhkjkhbgebgiaaR10b
import Derived.Test.YtlhkjkhbgebgiaaR10c
import Derived.Test.YtlhkjkhbgebgiaaRF
namespace Go.Proofs.Nums

theorem Q.mk'_lt {neg : Bool} {n d M : Nat} (hn : n < M) (hd : d < M) (hM : 1 < M) : (Q.mk' neg n d).n < M ∧ (Q.mk' neg n d).d < M := by
  unfold Q.mk'
  split
  · exact ⟨by show (0 : Nat) < M; omega, by show (1 : Nat) < M; omega⟩
  · exact ⟨Nat.lt_of_le_of_lt (Nat.div_le_self _ _) hn, Nat.lt_of_le_of_lt (Nat.div_le_self _ _) hd⟩

end Go.Proofs.Nums
namespace Go.Proofs.Ytlhkjkhbgebgiaa
open Go.RowKit Go.Proofs.Kit Go.Proofs.Nums

/-- Is this a risk limit, as the reference reads it? -/
def riskR (neg : Bool) (a b : List Nat) : Bool :=
  if b.length = 0 then false else if a.length = 0 then false else if neg = true then false else
  eqR (Q.mk' neg (val a) (val b)).neg (limbs (Q.mk' neg (val a) (val b)).n) (limbs (Q.mk' neg (val a) (val b)).d) neg a b && decide (Q.cmp ⟨neg, val a, val b⟩ (Q.of 1) ≤ 0)

theorem eqR_iff {na nb : Bool} {a b c d : List Nat} : eqR na a b nb c d = true ↔ na = nb ∧ a = c ∧ b = d := by
  unfold eqR eqN
  simp [and_assoc]

theorem risk_gok (neg : Bool) (a b : List Nat) : riskR neg a b = gokR neg a b := by
  by_cases hv : validR neg a b = true
  · obtain ⟨g1, g2, g3⟩ := valid_facts hv
    have hq : Q.mk' neg (val a) (val b) = ⟨neg, val a, val b⟩ := Q.nf_norm g1
    have hb : ¬ b.length = 0 := by
      rw [g3]
      have := limbs_len_pos g1.1
      simp only at this
      omega
    have he : eqR (Q.mk' neg (val a) (val b)).neg (limbs (Q.mk' neg (val a) (val b)).n) (limbs (Q.mk' neg (val a) (val b)).d) neg a b = true := by
      rw [hq, eqR_iff]
      exact ⟨rfl, g2.symm, g3.symm⟩
    unfold riskR gokR
    rw [he, hv, if_neg hb]
    by_cases ha : a.length = 0
    · rw [if_pos ha]
      have h0 : val a = 0 := by
        have : a = [] := List.eq_nil_of_length_eq_zero ha
        rw [this]; rfl
      have := Q.cmp_zero_le g1 (.inr h0)
      rw [decide_eq_false (by omega : ¬ 0 < Q.cmp ⟨neg, val a, val b⟩ (Q.of 0))]
      rfl
    · rw [if_neg ha]
      cases neg
      · have hpos : 0 < val a := by
          rcases Nat.eq_zero_or_pos (val a) with h | h
          · exfalso
            rw [h] at g2
            exact ha (by rw [g2, limbs_eq_nil.2 rfl]; rfl)
          · exact h
        have := Q.cmp_zero_pos g1 rfl hpos
        rw [this]
        simp
      · have := Q.cmp_zero_le g1 (.inl rfl)
        rw [decide_eq_false (by omega : ¬ 0 < Q.cmp ⟨true, val a, val b⟩ (Q.of 0))]
        rfl
  · have hg : gokR neg a b = false := by
      unfold gokR
      rw [Bool.not_eq_true] at hv
      rw [hv]
      rfl
    have he : eqR (Q.mk' neg (val a) (val b)).neg (limbs (Q.mk' neg (val a) (val b)).n) (limbs (Q.mk' neg (val a) (val b)).d) neg a b = false := by
      rw [← Bool.not_eq_true, eqR_iff]
      rintro ⟨h1, h2, h3⟩
      apply hv
      unfold validR
      rw [h1, h2, h3, eqN_self, eqN_self]
      simp
    rw [hg]
    unfold riskR
    rw [he]
    simp

theorem Blk.six {b b' : Nat} {x y z x' y' z' : Value} {w : World} (h : Blk b #[x, y, z] w) (h' : Blk b' #[x', y', z'] w) :
    w.cell? ⟨b, 0, none⟩ = some x ∧ w.cell? ⟨b, 1, none⟩ = some y ∧ w.cell? ⟨b, 2, none⟩ = some z ∧ w.cell? ⟨b', 0, none⟩ = some x' ∧ w.cell? ⟨b', 1, none⟩ = some y' ∧ w.cell? ⟨b', 2, none⟩ = some z' :=
  ⟨h.2.1 0, h.2.1 1, h.2.1 2, h'.2.1 0, h'.2.1 1, h'.2.1 2⟩

set_option maxRecDepth 100000 in
set_option maxHeartbeats 8000000 in
theorem rrisk_c {v : Value} {neg : Bool} {a b : List Nat} {w : World} (hr : RatL w v neg a b) (ha : a.length ≤ 4) (hb : b.length ≤ 4) :
    Calls Try.prog 34 #[v] w fun e w' => e = .returned (.bool (riskR neg a b)) ∧ Below w.heap.size w w' := by
  have hr2 := hr
  obtain ⟨vn, vd, rfl, gn, gd⟩ := hr
  obtain ⟨p1, k1, rfl⟩ := gn.shape
  obtain ⟨p2, k2, rfl⟩ := gd.shape
  have br := (Blk.new w #[.bool neg, .slice p1 a.length k1, .slice p2 b.length k2] 30)
  have hBd : Below w.heap.size w (w.alloc (.cells #[.bool neg, .slice p1 a.length k1, .slice p2 b.length k2] 30)) := (Below.refl _ _).alloc (Nat.le_refl _) _
  obtain ⟨m0, m1, m2⟩ := br.three
  by_cases hb0 : b.length = 0
  · have hR : riskR neg a b = false := by unfold riskR; rw [if_pos hb0]
    have z : ((b.length : Int) == 0) = true := by rw [beq_iff_eq]; omega
    rw [hR]
    clear hr2 gn gd ha hb hb0 hR br
    go_enter Try.func34, Try.ntmps34
    go_wp2_with fail
    go_ret
    exact ⟨rfl, hBd⟩
  have z1 : ((b.length : Int) == 0) = false := by rw [beq_eq_false_iff_ne]; omega
  by_cases ha0 : a.length = 0
  · have hR : riskR neg a b = false := by unfold riskR; rw [if_neg hb0, if_pos ha0]
    have z : ((a.length : Int) == 0) = true := by rw [beq_iff_eq]; omega
    rw [hR]
    clear hr2 gn gd ha hb hb0 hR ha0 br
    go_enter Try.func34, Try.ntmps34
    go_wp2_with fail
    go_ret
    exact ⟨rfl, hBd⟩
  have z2 : ((a.length : Int) == 0) = false := by rw [beq_eq_false_iff_ne]; omega
  cases neg
  case true =>
    have hR : riskR true a b = false := by unfold riskR; rw [if_neg hb0, if_neg ha0]; rfl
    rw [hR]
    clear hr2 gn gd ha hb hb0 hR ha0 br
    go_enter Try.func34, Try.ntmps34
    go_wp2_with fail
    go_ret
    exact ⟨rfl, hBd⟩
  case false =>
    obtain ⟨q, hq⟩ : ∃ q, Q.mk' false (val a) (val b) = q := ⟨_, rfl⟩
    have hqf : q.Nf := by rw [← hq]; exact Q.mk'_nf _ _ _
    obtain ⟨t1, ht1⟩ : ∃ t, eqR q.neg (limbs q.n) (limbs q.d) false a b = t := ⟨_, rfl⟩
    obtain ⟨c, hc⟩ : ∃ c, Q.cmp ⟨false, val a, val b⟩ (Q.of 1) = c := ⟨_, rfl⟩
    have hR : riskR false a b = (t1 && decide (c ≤ 0)) := by
      unfold riskR
      rw [if_neg hb0, if_neg ha0, hq, ht1, hc]
      rfl
    rw [hR]
    have hM : (1 : Nat) < 4294967296 ^ 4 := by decide
    have hlt : q.n < 4294967296 ^ 4 ∧ q.d < 4294967296 ^ 4 := by
      rw [← hq]
      exact Q.mk'_lt (Num.of gn ha).lt (Num.of gd hb).lt hM
    have hls : (limbs q.n).length ≤ 4 ∧ (limbs q.d).length ≤ 4 := ⟨limbs_len_le _ _ hlt.1, limbs_len_le _ _ hlt.2⟩
    have hsz : q.Sz 10000 := ⟨Nat.le_trans (bits_len_le q.n 128 (Nat.lt_of_lt_of_le hlt.1 (by decide))) (by omega), Nat.le_trans (bits_len_le q.d 128 (Nat.lt_of_lt_of_le hlt.2 (by decide))) (by omega)⟩
    have hsz1 : (Q.of 1).Sz 10000 := by unfold Q.of; exact Q.mk'_sz (by decide) (by decide) (by omega)
    have FR : Hid (∀ w', Below w.heap.size w w' → Calls Try.prog 46 #[.agg #[.bool false, .slice p1 a.length k1, .slice p2 b.length k2]] w' fun e w'' => ∃ x1 y1 z1 x2 y2 z2, e = .returned (.agg #[.bool q.neg, .slice x1 y1 z1, .slice x2 y2 z2]) ∧ RAt w'' (.agg #[.bool q.neg, .slice x1 y1 z1, .slice x2 y2 z2]) q ∧ Below w'.heap.size w' w'') := Lib.hid (fun w' h => by
      refine (rfrom_r ((hr2.keep h).at ha hb) (by omega)).mono ?_
      rintro e w'' ⟨v', rfl, h1, h2⟩
      have h1' : RFr w'' v' q w'.heap.size := by rw [← hq]; exact h1
      have h1q := h1'
      obtain ⟨x1, y1, z1, x2, y2, z2, rfl, _⟩ := h1'.shape
      exact ⟨_, _, _, _, _, _, rfl, h1q.at, h2⟩)
    have TO : Hid (∀ v' w', RAt w' v' q → Calls Try.prog 48 #[v'] w' (GivesN q 4 w')) := Lib.hid (fun v' w' h => gn_of (rto_r h (by omega) hlt.1 hlt.2))
    have EQ : Hid (∀ v' w', Below w.heap.size w w' → RatN w' v' q 4 → Calls Try.prog 47 #[v', .agg #[.bool false, .slice p1 a.length k1, .slice p2 b.length k2]] w' fun e w'' => e = .returned (.bool t1) ∧ Below w'.heap.size w' w'') := Lib.hid (fun v' w' h h' => by
      rw [← ht1]
      exact req_r h'.l (hr2.keep h) (Nat.le_trans h'.lens.1 (by omega)) (Nat.le_trans h'.lens.2 (by omega)) (by omega) (by omega))
    have OF : Hid (∀ w', Calls Try.prog 50 #[.int .i64 1] w' fun e w'' => ∃ v', e = .returned v' ∧ RAt w'' v' (Q.of 1) ∧ Below w'.heap.size w' w'') := Lib.hid (fun w' => by
      refine (rof_r (by omega) (by omega)).mono ?_
      rintro e w'' ⟨v', rfl, h1, h2⟩
      exact ⟨v', rfl, h1.at, h2⟩)
    have CM : Hid (∀ va vb w', RAt w' va q → RAt w' vb (Q.of 1) → Calls Try.prog 49 #[va, vb] w' fun e w'' => e = .returned (.int .i64 c) ∧ Below w'.heap.size w' w'') := Lib.hid (fun va vb w' h h' => by
      have e1 : (Q.of 1).norm = Q.of 1 := Q.nf_norm (Q.mk'_nf _ _ _)
      have e2 : Q.norm ⟨false, val a, val b⟩ = q := hq
      have := cmpD_cmp ⟨false, val a, val b⟩ (Q.of 1)
      rw [e1, e2, hc] at this
      rw [← this]
      exact rcmp_r h h' hsz hsz1)
    obtain ⟨l1, hl1⟩ : ∃ l, a.length = l := ⟨_, rfl⟩
    obtain ⟨l2, hl2⟩ : ∃ l, b.length = l := ⟨_, rfl⟩
    obtain ⟨qs, hqs⟩ : ∃ t, q.neg = t := ⟨_, rfl⟩
    rw [hqs] at FR
    rw [hl1, hl2] at FR EQ m0 br hBd
    rw [hl1, hl2] at m1 m2
    rw [hl2] at z1
    rw [hl1] at z2
    rw [hl1, hl2]
    have HB := Lib.hid br
    clear hr2 gn gd ha hb hb0 ha0 hR hM hlt hls hsz hsz1 hqf ht1 hc hl1 hl2 hq br
    cases t1
    · go_enter Try.func34, Try.ntmps34
      go_wp2_with (go_at_call 46; ((with_reducible refine (FR.out _ hBd).mono ?_); rintro e w1 ⟨x1, y1, e1, x2, y2, e2, rfl, hv1, hb1⟩; have hB1 := bel2' hBd hb1; have HB1 := Lib.hid (HB.out.keep hb1)))
      have hsz1 := hB1.size
      have ba := ((HB1.out.alloc (.cells #[.bool qs, .slice x1 y1 e1, .slice x2 y2 e2] 77))).drew
      have bb := (Blk.new w1 #[.bool qs, .slice x1 y1 e1, .slice x2 y2 e2] 77).drew
      have hra := (hv1.keep ((Below.refl w1.heap.size w1).alloc (Nat.le_refl _) (.cells #[.bool qs, .slice x1 y1 e1, .slice x2 y2 e2] 77))).keep (Below.refl _ _).drew
      have hBd2 : Below w.heap.size w (w1.alloc (.cells #[.bool qs, .slice x1 y1 e1, .slice x2 y2 e2] 77)).drew := (hB1.alloc hsz1 _).drew
      clear m0 m1 m2
      revert ba bb hra hBd2
      generalize (w1.alloc (.cells #[.bool qs, .slice x1 y1 e1, .slice x2 y2 e2] 77)) = W
      intro ba bb hra hB2
      have SX := Lib.hid (Blk.six ba bb)
      have BA := Lib.hid ba
      have BB := Lib.hid bb
      obtain ⟨u0, u1, u2, u3, u4, u5⟩ := SX.out
      clear ba bb
      go_region_with (first
        | (go_at_call 48; ((with_reducible refine (TO.out _ _ hra).mono ?_); rintro e w3 ⟨p3, l3, k3, p4, l4, k4, rfl, hv3, hb3⟩; rw [hqs] at hv3; have hB3 := bel2' hB2 hb3; have BA3 := Lib.hid (BA.out.keep hb3); have BB3 := Lib.hid (BB.out.keep hb3); have S3 := Lib.hid (Blk.six BA3.out BB3.out); have hra3 := hra.keep hb3; obtain ⟨u30, u31, u32, u33, u34, u35⟩ := S3.out))
        | (go_at_call 47; ((with_reducible refine (EQ.out _ _ hB3 hv3).mono ?_); rintro e w4 ⟨rfl, hb4⟩; have hB4 := bel2' hB3 hb4; have BA4 := Lib.hid (BA3.out.keep hb4); have BB4 := Lib.hid (BB3.out.keep hb4); have S4 := Lib.hid (Blk.six BA4.out BB4.out); have hra4 := hra3.keep hb4; obtain ⟨u40, u41, u42, u43, u44, u45⟩ := S4.out)))
      all_goals
        go_wp2_with fail
        go_ret
        exact ⟨by rfl, by first | exact hB4.drew | exact hB4⟩
    · go_enter Try.func34, Try.ntmps34
      go_wp2_with (go_at_call 46; ((with_reducible refine (FR.out _ hBd).mono ?_); rintro e w1 ⟨x1, y1, e1, x2, y2, e2, rfl, hv1, hb1⟩; have hB1 := bel2' hBd hb1; have HB1 := Lib.hid (HB.out.keep hb1)))
      have hsz1 := hB1.size
      have ba := ((HB1.out.alloc (.cells #[.bool qs, .slice x1 y1 e1, .slice x2 y2 e2] 77))).drew
      have bb := (Blk.new w1 #[.bool qs, .slice x1 y1 e1, .slice x2 y2 e2] 77).drew
      have hra := (hv1.keep ((Below.refl w1.heap.size w1).alloc (Nat.le_refl _) (.cells #[.bool qs, .slice x1 y1 e1, .slice x2 y2 e2] 77))).keep (Below.refl _ _).drew
      have hBd2 : Below w.heap.size w (w1.alloc (.cells #[.bool qs, .slice x1 y1 e1, .slice x2 y2 e2] 77)).drew := (hB1.alloc hsz1 _).drew
      clear m0 m1 m2
      revert ba bb hra hBd2
      generalize (w1.alloc (.cells #[.bool qs, .slice x1 y1 e1, .slice x2 y2 e2] 77)) = W
      intro ba bb hra hB2
      have SX := Lib.hid (Blk.six ba bb)
      have BA := Lib.hid ba
      have BB := Lib.hid bb
      clear ba bb
      go_region_held3 (fun w' => w'.cell? ⟨w.heap.size, 0, none⟩ = some (.bool false) ∧ w'.cell? ⟨w.heap.size, 1, none⟩ = some (.slice p1 l1 k1) ∧ w'.cell? ⟨w.heap.size, 2, none⟩ = some (.slice p2 l2 k2) ∧ w'.cell? ⟨w1.heap.size, 0, none⟩ = some (.bool qs) ∧ w'.cell? ⟨w1.heap.size, 1, none⟩ = some (.slice x1 y1 e1) ∧ w'.cell? ⟨w1.heap.size, 2, none⟩ = some (.slice x2 y2 e2))
        (first | exact SX.out | exact S3.out | exact S4.out | exact S5.out | exact S6.out)
        (first
          | (go_at_call 48; ((with_reducible refine (TO.out _ _ hra).mono ?_); rintro e w3 ⟨p3, l3, k3, p4, l4, k4, rfl, hv3, hb3⟩; rw [hqs] at hv3; have hB3 := bel2' hB2 hb3; have BA3 := Lib.hid (BA.out.keep hb3); have BB3 := Lib.hid (BB.out.keep hb3); have S3 := Lib.hid (Blk.six BA3.out BB3.out); have hra3 := hra.keep hb3))
          | (go_at_call 47; ((with_reducible refine (EQ.out _ _ hB3 hv3).mono ?_); rintro e w4 ⟨rfl, hb4⟩; have hB4 := bel2' hB3 hb4; have BA4 := Lib.hid (BA3.out.keep hb4); have BB4 := Lib.hid (BB3.out.keep hb4); have S4 := Lib.hid (Blk.six BA4.out BB4.out); have hra4 := hra3.keep hb4))
          | (go_at_call 50; ((with_reducible refine (OF.out _).mono ?_); rintro e w5 ⟨v5, rfl, hv5, hb5⟩; have hB5 := bel2' hB4 hb5; have S5 := Lib.hid (Blk.six (BA4.out.keep hb5) (BB4.out.keep hb5)); have hra5 := hra4.keep hb5))
          | (go_at_call 49; ((with_reducible refine (CM.out _ _ _ hra5 hv5).mono ?_); rintro e w6 ⟨rfl, hb6⟩; have hB6 := bel2' hB5 hb6; have S6 := Lib.hid (Blk.six ((BA4.out.keep hb5).keep hb6) ((BB4.out.keep hb5).keep hb6)))))
      all_goals
        go_wp2_with fail
        go_ret
        exact ⟨by rfl, by first | exact hB6.drew | exact hB6⟩

end Go.Proofs.Ytlhkjkhbgebgiaa
