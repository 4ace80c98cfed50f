/- Fractions; Confirmed. -/
import Derived.Test.YtlhkjkhbgebgiaaV2
import Derived.Test.YtlhkjkhbgebgiaaV3
import Derived.Test.YtlhkjkhbgebgiaaR9
import Derived.Deep.RegionHeld3
import Derived.Laws.BitsLemmas
namespace Go.Proofs.Nums

theorem Q.cmp_le {a b : Q} {z t : Int} {d e : Nat} (na : a.Nf) (nb : b.Nf) (ha : a.Rep z d) (hb : b.Rep t e) (hd : 0 < d) (he : 0 < e) (h : z * (e : Int) ≤ t * (d : Int)) : Q.cmp a b ≤ 0 := by
  have hf : (Q.mk' (!b.norm.neg) b.norm.n b.norm.d).Nf := Q.mk'_nf _ _ _
  have rf := Q.mk'_rep (!b.norm.neg) b.norm.n b.norm.d (Q.norm_d b)
  have rs := Q.addR_rep (Q.norm_d a) hf.1
  rw [← Q.sub_eq] at rs
  rw [sg_flip, ← Q.s_sg] at rf
  rw [Q.nf_norm nb] at rf
  rw [Q.nf_norm na, Q.nf_norm nb] at rs
  rw [Q.nf_norm nb] at hf
  have hS : (Q.sub a b).Nf := Q.addR_nf _ _
  unfold Q.Rep at *
  generalize Q.mk' (!b.neg) b.n b.d = F at *
  have key : (Q.sub a b).s ≤ 0 := by
    have a1 : (0 : Int) < a.d := by have := na.1; omega
    have b1 : (0 : Int) < b.d := by have := nb.1; omega
    have f1 : (0 : Int) < F.d := by have := hf.1; omega
    have s1 : (0 : Int) < (Q.sub a b).d := by have := hS.1; omega
    have d1 : (0 : Int) < d := by omega
    have e1 : (0 : Int) < e := by omega
    push_cast at rs
    generalize (Q.sub a b).s = S at *
    generalize ((Q.sub a b).d : Int) = Sd at *
    generalize a.s = A at *
    generalize b.s = B at *
    generalize F.s = Fs at *
    generalize (a.d : Int) = Ad at *
    generalize (b.d : Int) = Bd at *
    generalize (F.d : Int) = Fd at *
    generalize (d : Int) = D at *
    generalize (e : Int) = E at *
    have k1 : A * Bd ≤ B * Ad := by
      have g1 : (z * E) * (Ad * Bd) ≤ (t * D) * (Ad * Bd) := Int.mul_le_mul_of_nonneg_right h (Int.mul_nonneg (by omega) (by omega))
      have g2 : (z * E) * (Ad * Bd) = (A * Bd) * (D * E) := by grind
      have g3 : (t * D) * (Ad * Bd) = (B * Ad) * (D * E) := by grind
      rw [g2, g3] at g1
      exact Int.le_of_mul_le_mul_right g1 (Int.mul_pos d1 e1)
    have k2 : A * Fd + Fs * Ad ≤ 0 := by
      have g1 : (A * Bd) * Fd ≤ (B * Ad) * Fd := Int.mul_le_mul_of_nonneg_right k1 (by omega)
      have g2 : (A * Fd + Fs * Ad) * Bd = (A * Bd) * Fd - (B * Ad) * Fd := by grind
      have g3 : (A * Fd + Fs * Ad) * Bd ≤ 0 * Bd := by rw [g2]; omega
      exact Int.le_of_mul_le_mul_right g3 b1
    have g1 : (A * Fd + Fs * Ad) * Sd ≤ 0 * Sd := Int.mul_le_mul_of_nonneg_right k2 (by omega)
    have g2 : S * (Ad * Fd) ≤ 0 * (Ad * Fd) := by
      rw [rs, Int.zero_mul]; rw [Int.zero_mul] at g1; exact g1
    exact Int.le_of_mul_le_mul_right g2 (Int.mul_pos a1 f1)
  unfold Q.cmp
  simp only
  by_cases h1 : (Q.sub a b).neg = true
  · rw [if_pos h1]; decide
  · rw [if_neg h1]
    unfold Q.s at key
    rw [if_neg h1] at key
    rw [if_pos (by omega)]
    decide

theorem Q.cmp_zero_pos {q : Q} (h : q.Nf) (hn : q.neg = false) (h0 : 0 < q.n) : Q.cmp q (Q.of 0) = 1 := by
  have e : Q.sub q (Q.of 0) = q := by
    unfold Q.sub Q.add
    rw [Q.nf_norm h]
    have e0 : (Q.of 0).flip.norm = ⟨false, 0, 1⟩ := Q.norm_zero (.inl rfl)
    rw [e0]
    have e1 : Q.addR q ⟨false, 0, 1⟩ = Q.mk' q.neg q.n q.d := by
      unfold Q.addR sumS
      simp [hn]
    rw [e1]
    exact Q.nf_norm h
  unfold Q.cmp
  rw [e]
  simp only [hn, Bool.false_eq_true, if_false]
  rw [if_neg (by omega)]
theorem Q.cmp_one_le {q : Q} (h : q.Nf) (hn : q.neg = false) (h1 : q.n ≤ q.d) : Q.cmp q (Q.of 1) ≤ 0 := by
  refine Q.cmp_le (z := q.s) (d := q.d) (t := 1) (e := 1) h (Q.mk'_nf _ _ _) rfl (Q.mk'_rep _ _ _ (by decide)) h.1 (by decide) ?_
  unfold Q.s
  rw [hn]
  simp only [Bool.false_eq_true, if_false]
  omega

end Go.Proofs.Nums
namespace Go.Proofs.Ytlhkjkhbgebgiaa
open Go.RowKit Go.Proofs.Kit Go.Proofs.Nums

/-- A call that hands back a Ratio in normal form. -/
def GivesN (q : Q) (L : Nat) (w : World) (e : Ending) (w' : World) : Prop := ∃ p l k p' l' k', e = .returned (.agg #[.bool q.neg, .slice p l k, .slice p' l' k']) ∧ RatN w' (.agg #[.bool q.neg, .slice p l k, .slice p' l' k']) q L ∧ Below w.heap.size w w'
theorem gn_of {P : Program} {f : FuncId} {args : Array Value} {w : World} {q : Q} {L : Nat} (h : Calls P f args w fun e w' => ∃ v, e = .returned v ∧ RatN w' v q L ∧ Below w.heap.size w w') : Calls P f args w (GivesN q L w) :=
  h.mono (by
    rintro e w' ⟨v, rfl, hv, hb⟩
    have hv2 := hv
    obtain ⟨p1, l1, k1, p2, l2, k2, rfl, _, _⟩ := hv.shape
    exact ⟨_, _, _, _, _, _, rfl, hv2, hb⟩)
theorem eqR_self (n : Bool) (a b : List Nat) : eqR n a b n a b = true := by unfold eqR; rw [eqN_self, eqN_self]; simp
theorem RatN.l {w : World} {v : Value} {q : Q} {L : Nat} (h : RatN w v q L) : RatL w v q.neg (limbs q.n) (limbs q.d) := by
  obtain ⟨vn, vd, h1, h2, h3⟩ := h; exact ⟨vn, vd, h1, h2.1, h3.1⟩
theorem RatN.lens {w : World} {v : Value} {q : Q} {L : Nat} (h : RatN w v q L) : (limbs q.n).length ≤ L ∧ (limbs q.d).length ≤ L := by
  obtain ⟨vn, vd, h1, h2, h3⟩ := h; exact ⟨h2.len, h3.len⟩
theorem RatN.al {w : World} {v : Value} {q : Q} {L : Nat} (h : RatN w v q L) (o : Obj) : RatN (w.alloc o) v q L := h.keep ((Below.refl _ _).alloc (Nat.le_refl _) _)
theorem bal {w0 w : World} (h : Below w0.heap.size w0 w) (o : Obj) : Below w0.heap.size w0 (w.alloc o) := h.alloc h.size o

theorem w64 {n : Int} (h1 : -9223372036854775808 ≤ n) (h2 : n ≤ 9223372036854775807) : IntKind.i64.wrap n = n := by
  rw [IntKind.wrap_i64]; omega
theorem wu64 {n : Int} (h1 : 0 ≤ n) (h2 : n ≤ 18446744073709551615) : IntKind.u64.wrap n = n := by
  have e : IntKind.u64.wrap n = n % 18446744073709551616 := by simp [IntKind.wrap, IntKind.bits, IntKind.signed]
  rw [e]; omega

set_option maxRecDepth 100000 in
set_option maxHeartbeats 4000000 in
theorem fraction_c (a b : Nat) (ha : 0 < a) (hb : 0 < b) (ha2 : a ≤ 1000000) (hb2 : b ≤ 1000000) (w : World) :
    Calls Try.prog 20 #[.int .i64 a, .int .i64 b] w (GivesN (Q.mk' false a b) 2 w) := by
  have hq : Q.mk' false a b = ⟨false, a / Nat.gcd a b, b / Nat.gcd a b⟩ := Q.mk'_pos ha hb
  have hg := Nat.gcd_pos_of_pos_left b ha
  have hgle : Nat.gcd a b ≤ 1000000 := Nat.le_trans (Nat.le_of_dvd ha (Nat.gcd_dvd_left a b)) ha2
  have GC : Hid (∀ w, Calls Try.prog 32 #[.int .i64 a, .int .i64 b] w fun e w' => e = .returned (.int .i64 (Nat.gcd a b : Nat)) ∧ Below w.heap.size w w') := Lib.hid (fun w => gcd_c a b ha2 hb2 w)
  rw [hq]
  obtain ⟨g, hgg⟩ : ∃ g, Nat.gcd a b = g := ⟨_, rfl⟩
  rw [hgg] at GC hg hgle ⊢
  have d1 : (a : Int).tdiv (g : Int) = ((a / g : Nat) : Int) := by
    rw [Int.tdiv_eq_ediv_of_nonneg (by omega)]; exact (Int.natCast_ediv a g).symm
  have d2 : (b : Int).tdiv (g : Int) = ((b / g : Nat) : Int) := by
    rw [Int.tdiv_eq_ediv_of_nonneg (by omega)]; exact (Int.natCast_ediv b g).symm
  have k1 : a / g ≤ 1000000 := Nat.le_trans (Nat.div_le_self a g) ha2
  have k2 : b / g ≤ 1000000 := Nat.le_trans (Nat.div_le_self b g) hb2
  obtain ⟨x, hx⟩ : ∃ x, a / g = x := ⟨_, rfl⟩
  obtain ⟨y, hy⟩ : ∃ y, b / g = y := ⟨_, rfl⟩
  rw [hx] at d1 k1 ⊢
  rw [hy] at d2 k2 ⊢
  have LX := Lib.hid (fun w => limbs_c x (by omega) w)
  have LY := Lib.hid (fun w => limbs_c y (by omega) w)
  have z1 : ¬ (g : Int) = 0 := by omega
  have z2 : ((g : Int) == 0) = false := by rw [beq_eq_false_iff_ne]; omega
  have z3 : ¬ g = 0 := by omega
  have u1 : IntKind.i64.wrap (x : Int) = (x : Int) := w64 (by omega) (by omega)
  have u2 : IntKind.i64.wrap (y : Int) = (y : Int) := w64 (by omega) (by omega)
  clear hq hgg hx hy hg
  have B0 := Lib.hid (Blk.new w #[.bool false, .slice none 0 0, .slice none 0 0] 30)
  have hBd : Below w.heap.size w (w.alloc (.cells #[.bool false, .slice none 0 0, .slice none 0 0] 30)) := (Below.refl _ _).alloc (Nat.le_refl _) _
  go_enter Try.func20, Try.ntmps20
  go_wp2_with (go_at_call 32; ((with_reducible refine (GC.out _).mono ?_); rintro e w1 ⟨rfl, hb1⟩; have hB1 := bel2' hBd hb1; have B1 := Lib.hid (B0.out.keep hb1)))
  go_region_held3 (fun _ => True) (first | exact trivial)
    (first
      | (go_at_call 33; ((with_reducible refine (LX.out _).mono ?_); rintro e w2 ⟨p2, l2, c2, rfl, hv2, hb2⟩; have hB2 := bel2' hB1.drew hb2; have B2 := Lib.hid (B1.out.drew.keep hb2)))
      | (go_at_call 33; ((with_reducible refine (LY.out _).mono ?_); rintro e w3 ⟨p3, l3, c3, rfl, hv3, hb3⟩; have hB3 := bel2' hB2 hb3; have B3 := Lib.hid (B2.out.keep hb3); have hv23 := hv2.keep hb3; obtain ⟨m0, m1, m2⟩ := B3.out.three; obtain ⟨t0, t1, t2⟩ := B3.out.free3)))
  all_goals
    go_wp2_with fail
    refine bodyPost_ret (v := .agg #[.bool false, .slice p2 l2 c2, .slice p3 l3 c3]) (by simp [results, Try.results20, go_sem, m0, m1, m2]) rfl ?_
    have gg := retN (q := ⟨false, x, y⟩) hB3 (Nat.le_refl _) B3.out (by simp) (by simp) (by simp) hv23 hv3
    exact ⟨_, _, _, _, _, _, rfl, gg.1, gg.2⟩

theorem keep4 {w w' : World} {b0 o0 b1 o1 b2 o2 b3 o3 : Nat} {x0 x1 x2 x3 : Value} (h : w.cell? ⟨b0, o0, none⟩ = some x0 ∧ w.cell? ⟨b1, o1, none⟩ = some x1 ∧ w.cell? ⟨b2, o2, none⟩ = some x2 ∧ w.cell? ⟨b3, o3, none⟩ = some x3) (hb : Below w.heap.size w w') : w'.cell? ⟨b0, o0, none⟩ = some x0 ∧ w'.cell? ⟨b1, o1, none⟩ = some x1 ∧ w'.cell? ⟨b2, o2, none⟩ = some x2 ∧ w'.cell? ⟨b3, o3, none⟩ = some x3 := ⟨cell_keep hb h.1, cell_keep hb h.2.1, cell_keep hb h.2.2.1, cell_keep hb h.2.2.2⟩

/-- Whether the assertion is confirmed. -/
def Mt.conf (s : Mt) (q : Q) : Bool := s.pr || decide (4294967296 * (q.d : Int) ≤ s.best * (q.n : Int))

set_option maxRecDepth 100000 in
set_option maxHeartbeats 8000000 in
theorem conf_c {H : Nat} {s : Mt} {w : World} {v : Value} {q : Q} (hm : MeterAt w H s) (hs : s.Ok) (hr : RatN w v q 2) (hf : q.Nf) (hn : q.neg = false) (h0 : 0 < q.n) (h1 : q.n ≤ q.d) :
    Calls Try.prog 14 #[.pointer (some ⟨H, 0, none⟩), v] w fun e w' => e = .returned (.bool (Mt.conf s q)) ∧ Below w.heap.size w w' := by
  have hr2 := hr
  obtain ⟨p1, l1, k1, p2, l2, k2, rfl, gn, gd⟩ := hr.shape
  have hval : validR q.neg (limbs q.n) (limbs q.d) = true := by
    have e : Q.mk' q.neg (val (limbs q.n)) (val (limbs q.d)) = q := by rw [val_limbs, val_limbs]; exact Q.nf_norm hf
    unfold validR
    rw [e]
    exact eqR_self _ _ _
  have VA : Hid (∀ w', Below w.heap.size w w' → Calls Try.prog 26 #[.agg #[.bool q.neg, .slice p1 l1 k1, .slice p2 l2 k2]] w' fun e w'' => e = .returned (.bool true) ∧ Below w'.heap.size w' w'') := Lib.hid (fun w' h => by
    have := valid_r (L := 2) (hr2.keep h).l (hr2.keep h).lens.1 (hr2.keep h).lens.2 (by omega) (by omega)
    rw [hval] at this
    exact this)
  have O0 : Hid (∀ w, Calls Try.prog 28 #[.int .i64 0] w (GivesN (Q.of 0) 2 w)) := Lib.hid (fun w => gn_of (of_r (z := 0) (by omega) (by omega) (by omega) (by omega)))
  have O1 : Hid (∀ w, Calls Try.prog 28 #[.int .i64 1] w (GivesN (Q.of 1) 2 w)) := Lib.hid (fun w => gn_of (of_r (z := 1) (by omega) (by omega) (by omega) (by omega)))
  obtain ⟨c2, hc2⟩ : ∃ c, Q.cmp q (Q.of 1) = c := ⟨_, rfl⟩
  have hcle : c2 ≤ 0 := by rw [← hc2]; exact Q.cmp_one_le hf hn h1
  have CM0 : Hid (∀ v w', Below w.heap.size w w' → RatN w' v (Q.of 0) 2 → Calls Try.prog 27 #[.agg #[.bool q.neg, .slice p1 l1 k1, .slice p2 l2 k2], v] w' fun e w'' => e = .returned (.int .i64 1) ∧ Below w'.heap.size w' w'') := Lib.hid (fun v w' h g => by
    have := cmp_r (hr2.keep h).at g.at (by omega) (by omega)
    rw [Q.cmp_zero_pos hf hn h0] at this
    exact this)
  have CM1 : Hid (∀ v w', Below w.heap.size w w' → RatN w' v (Q.of 1) 2 → Calls Try.prog 27 #[.agg #[.bool q.neg, .slice p1 l1 k1, .slice p2 l2 k2], v] w' fun e w'' => e = .returned (.int .i64 c2) ∧ Below w'.heap.size w' w'') := Lib.hid (fun v w' h g => by
    have := cmp_r (hr2.keep h).at g.at (by omega) (by omega)
    rw [hc2] at this
    exact this)
  have hd2 : decide ((0 : Int) < c2) = false := decide_eq_false (by omega)
  have hb1 := hs.b1
  have hb2 := hs.b2
  obtain ⟨c0, c1, c2', c3, c4, c5, c6, c7⟩ := hm.eight
  have MH := Lib.hid hm
  obtain ⟨bn, hbn⟩ : ∃ m : Nat, s.best = m := ⟨s.best.toNat, by omega⟩
  have OB : Hid (∀ w, Calls Try.prog 31 #[.int .u64 bn] w fun e w' => ∃ v', e = .returned v' ∧ Nrm w' v' bn 2 ∧ Below w.heap.size w w') := Lib.hid (fun w => nrm_of (by omega) (by omega))
  have OO : Hid (∀ w, Calls Try.prog 31 #[.int .u64 4294967296] w fun e w' => ∃ v', e = .returned v' ∧ Nrm w' v' 4294967296 2 ∧ Below w.heap.size w w') := Lib.hid (fun w => nrm_ofz (n := 4294967296) rfl (by omega) (by omega))
  have MB : Hid (∀ v w', Below w.heap.size w w' → Nrm w' v bn 2 → Calls Try.prog 30 #[v, .slice p1 l1 k1] w' fun e w'' => ∃ v', e = .returned v' ∧ Nrm w'' v' (bn * q.n) 4 ∧ Below w'.heap.size w' w'') := Lib.hid (fun v w' h g => mul_num g.num (gn.keep h).num (by omega) (by omega))
  have MO : Hid (∀ v w', Below w.heap.size w w' → Nrm w' v 4294967296 2 → Calls Try.prog 30 #[v, .slice p2 l2 k2] w' fun e w'' => ∃ v', e = .returned v' ∧ Nrm w'' v' (4294967296 * q.d) 4 ∧ Below w'.heap.size w' w'') := Lib.hid (fun v w' h g => mul_num g.num (gd.keep h).num (by omega) (by omega))
  obtain ⟨cc, hcc⟩ : ∃ c, cmpN (bn * q.n) (4294967296 * q.d) = c := ⟨_, rfl⟩
  have CN : Hid (∀ va vb w', Nrm w' va (bn * q.n) 4 → Nrm w' vb (4294967296 * q.d) 4 → Calls Try.prog 29 #[va, vb] w' fun e w'' => e = .returned (.int .i64 cc) ∧ Below w'.heap.size w' w'') := Lib.hid (fun va vb w' g g' => by
    have := cmp_num g.num g'.num (by omega) (by omega)
    rw [hcc] at this
    exact this)
  have hdec : Hid (decide ((0 : Int) ≤ cc) = decide (4294967296 * (q.d : Int) ≤ s.best * (q.n : Int))) := Lib.hid (by
    rw [hbn, ← hcc]
    obtain ⟨P, hP⟩ : ∃ P, bn * q.n = P := ⟨_, rfl⟩
    have hPi : (bn : Int) * (q.n : Int) = (P : Int) := by rw [← hP]; exact (Int.natCast_mul _ _).symm
    rw [hP, hPi, decide_eq_decide]
    unfold cmpN
    by_cases g1 : P < 4294967296 * q.d
    · rw [if_pos g1]; constructor <;> intro h <;> omega
    · rw [if_neg g1]
      constructor
      · intro _; omega
      · intro _; split <;> decide)
  have HC : Hid (Mt.conf s q = (s.pr || decide ((0 : Int) ≤ cc))) := Lib.hid (by rw [hdec.out]; rfl)
  rw [HC.out]
  rw [hbn] at c6 hb1 hb2
  have u1 : IntKind.u64.wrap (bn : Int) = (bn : Int) := wu64 (by omega) (by omega)
  obtain ⟨tt, htt⟩ : ∃ t : Bool, decide ((0 : Int) ≤ cc) = t := ⟨_, rfl⟩
  rw [htt]
  obtain ⟨qs, hqs⟩ : ∃ t, q.neg = t := ⟨_, rfl⟩
  rw [hqs] at VA CM0 CM1
  rw [hqs]
  obtain ⟨pr, hpr⟩ : ∃ t, s.pr = t := ⟨_, rfl⟩
  rw [hpr] at c7
  rw [hpr]
  clear hm hs hr hr2 hf hn h0 h1 gn gd hval hc2 hcle hbn hcc hdec HC hqs hpr c0 c1 c2' c3 c4 c5
  have BR := Lib.hid (Blk.new w #[.bool qs, .slice p1 l1 k1, .slice p2 l2 k2] 30).drew
  have S0 := Lib.hid (And.intro (cell_alloc_old (o := .cells #[.bool qs, .slice p1 l1 k1, .slice p2 l2 k2] 30) c6) (cell_alloc_old (o := .cells #[.bool qs, .slice p1 l1 k1, .slice p2 l2 k2] 30) c7))
  have hBd : Below w.heap.size w (w.alloc (.cells #[.bool qs, .slice p1 l1 k1, .slice p2 l2 k2] 30)) := (Below.refl _ _).alloc (Nat.le_refl _) _
  have hB0 := hBd.drew
  cases pr
  · cases tt
    all_goals
      go_enter Try.func14, Try.ntmps14
      go_wp2_with fail
      go_region_held3 (fun w' => w'.cell? ⟨w.heap.size, 0, none⟩ = some (.bool qs) ∧ w'.cell? ⟨w.heap.size, 1, none⟩ = some (.slice p1 l1 k1) ∧ w'.cell? ⟨w.heap.size, 2, none⟩ = some (.slice p2 l2 k2))
        (first | exact BR.out.three | exact BR1.out.three | exact BR2.out.three | exact BR3.out.three | exact BR4.out.three | exact BR5.out.three)
        (first
          | (go_at_call 26; ((with_reducible refine (VA.out _ hB0).mono ?_); rintro e w1 ⟨rfl, hb1⟩; have hB1 := bel2' hB0 hb1; have BR1 := Lib.hid (BR.out.keep hb1); have S1 := Lib.hid (And.intro (cell_keep (hb1) (S0.out.1 : (w.alloc _).drew.cell? _ = _)) (cell_keep hb1 (S0.out.2 : (w.alloc _).drew.cell? _ = _)))))
          | (go_at_call 28; ((with_reducible refine (O0.out _).mono ?_); rintro e w2 ⟨p3, l3, k3, p4, l4, k4, rfl, hv2, hb2⟩; have hB2 := bel2' hB1 hb2; have BR2 := Lib.hid (BR1.out.keep hb2); have S2 := Lib.hid (And.intro (cell_keep hb2 S1.out.1) (cell_keep hb2 S1.out.2))))
          | (go_at_call 27; ((with_reducible refine (CM0.out _ _ hB2 hv2).mono ?_); rintro e w3 ⟨rfl, hb3⟩; have hB3 := bel2' hB2 hb3; have BR3 := Lib.hid (BR2.out.keep hb3); have S3 := Lib.hid (And.intro (cell_keep hb3 S2.out.1) (cell_keep hb3 S2.out.2))))
          | (go_at_call 28; ((with_reducible refine (O1.out _).mono ?_); rintro e w4 ⟨p5, l5, k5, p6, l6, k6, rfl, hv4, hb4⟩; have hB4 := bel2' hB3 hb4; have BR4 := Lib.hid (BR3.out.keep hb4); have S4 := Lib.hid (And.intro (cell_keep hb4 S3.out.1) (cell_keep hb4 S3.out.2))))
          | (go_at_call 27; ((with_reducible refine (CM1.out _ _ hB4 hv4).mono ?_); rintro e w5 ⟨rfl, hb5⟩; have hB5 := bel2' hB4 hb5; have BR5 := Lib.hid (BR4.out.keep hb5); have S5 := Lib.hid (And.intro (cell_keep hb5 S4.out.1) (cell_keep hb5 S4.out.2)))))
      all_goals
        go_wp2_with fail
        have BX := Lib.hid (Blk.three BR5.out.drew)
        have SX := Lib.hid (And.intro S5.out.1 (And.intro S5.out.2 (And.intro BR5.out.three.2.1 BR5.out.three.2.2)))
        have hBX := hB5.drew
        go_region_held3 (fun w' => w'.cell? ⟨H, 6, none⟩ = some (.int .i64 bn) ∧ w'.cell? ⟨H, 7, none⟩ = some (.bool false) ∧ w'.cell? ⟨w.heap.size, 1, none⟩ = some (.slice p1 l1 k1) ∧ w'.cell? ⟨w.heap.size, 2, none⟩ = some (.slice p2 l2 k2))
          (first | exact SX.out | exact keep4 SX.out (by assumption) | exact S6.out | exact S7.out | exact S8.out | exact S9.out | exact S10.out)
          (first
            | (go_at_call 31; ((with_reducible refine (OB.out _).mono ?_); rintro e w6 ⟨v6, rfl, hv6, hb6⟩; have hB6 := bel2' hBX hb6; have S6 := Lib.hid (keep4 (w := w5.drew) SX.out hb6)))
            | (go_at_call 30; ((with_reducible refine (MB.out _ _ hB6 hv6).mono ?_); rintro e w7 ⟨v7, rfl, hv7, hb7⟩; have hB7 := bel2' hB6 hb7; have S7 := Lib.hid (keep4 S6.out hb7)))
            | (go_at_call 31; ((with_reducible refine (OO.out _).mono ?_); rintro e w8 ⟨v8, rfl, hv8, hb8⟩; have hB8 := bel2' hB7 hb8; have S8 := Lib.hid (keep4 S7.out hb8); have hv78 := hv7.keep hb8))
            | (go_at_call 30; ((with_reducible refine (MO.out _ _ hB8 hv8).mono ?_); rintro e w9 ⟨v9, rfl, hv9, hb9⟩; have hB9 := bel2' hB8 hb9; have S9 := Lib.hid (keep4 S8.out hb9); have hv79 := hv78.keep hb9))
            | (go_at_call 29; ((with_reducible refine (CN.out _ _ _ hv79 hv9).mono ?_); rintro e w10 ⟨rfl, hb10⟩; have hB10 := bel2' hB9 hb10; have S10 := Lib.hid (keep4 S9.out hb10))))
        all_goals
          go_wp2_with fail
          go_ret
          exact ⟨rfl, hB10⟩
  · go_enter Try.func14, Try.ntmps14
    go_wp2_with fail
    go_region_held3 (fun w' => w'.cell? ⟨w.heap.size, 0, none⟩ = some (.bool qs) ∧ w'.cell? ⟨w.heap.size, 1, none⟩ = some (.slice p1 l1 k1) ∧ w'.cell? ⟨w.heap.size, 2, none⟩ = some (.slice p2 l2 k2))
      (first | exact BR.out.three | exact BR1.out.three | exact BR2.out.three | exact BR3.out.three | exact BR4.out.three | exact BR5.out.three)
      (first
        | (go_at_call 26; ((with_reducible refine (VA.out _ hB0).mono ?_); rintro e w1 ⟨rfl, hb1⟩; have hB1 := bel2' hB0 hb1; have BR1 := Lib.hid (BR.out.keep hb1); have S1 := Lib.hid (And.intro (cell_keep (hb1) (S0.out.1 : (w.alloc _).drew.cell? _ = _)) (cell_keep hb1 (S0.out.2 : (w.alloc _).drew.cell? _ = _)))))
        | (go_at_call 28; ((with_reducible refine (O0.out _).mono ?_); rintro e w2 ⟨p3, l3, k3, p4, l4, k4, rfl, hv2, hb2⟩; have hB2 := bel2' hB1 hb2; have BR2 := Lib.hid (BR1.out.keep hb2); have S2 := Lib.hid (And.intro (cell_keep hb2 S1.out.1) (cell_keep hb2 S1.out.2))))
        | (go_at_call 27; ((with_reducible refine (CM0.out _ _ hB2 hv2).mono ?_); rintro e w3 ⟨rfl, hb3⟩; have hB3 := bel2' hB2 hb3; have BR3 := Lib.hid (BR2.out.keep hb3); have S3 := Lib.hid (And.intro (cell_keep hb3 S2.out.1) (cell_keep hb3 S2.out.2))))
        | (go_at_call 28; ((with_reducible refine (O1.out _).mono ?_); rintro e w4 ⟨p5, l5, k5, p6, l6, k6, rfl, hv4, hb4⟩; have hB4 := bel2' hB3 hb4; have BR4 := Lib.hid (BR3.out.keep hb4); have S4 := Lib.hid (And.intro (cell_keep hb4 S3.out.1) (cell_keep hb4 S3.out.2))))
        | (go_at_call 27; ((with_reducible refine (CM1.out _ _ hB4 hv4).mono ?_); rintro e w5 ⟨rfl, hb5⟩; have hB5 := bel2' hB4 hb5; have BR5 := Lib.hid (BR4.out.keep hb5); have S5 := Lib.hid (And.intro (cell_keep hb5 S4.out.1) (cell_keep hb5 S4.out.2)))))
    all_goals
      go_wp2_with fail
      have c6' := S5.out.1
      have c7' := S5.out.2
      go_region
      all_goals
        go_wp2_with fail
        go_ret
        exact ⟨rfl, by first | exact hB5.drew | exact hB5⟩

end Go.Proofs.Ytlhkjkhbgebgiaa
