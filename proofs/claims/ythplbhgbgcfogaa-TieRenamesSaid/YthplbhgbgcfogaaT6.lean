/- Comparing short Ratios: short, times, compare of the reference. -/
import Derived.Test.YthplbhgbgcfogaaT5
import Derived.Deep.RegionHeld3
namespace Go.Proofs.Nums

/-- The comparison of two short Ratios. -/
def cmpS (a b : Q) : Int := if a.n * b.d < b.n * a.d then -1 else if b.n * a.d < a.n * b.d then 1 else 0
theorem Q.cmp_sh {a b : Q} (ha : ShQ a) (hb : ShQ b) : Q.cmp a b = cmpS a b := by
  obtain ⟨na, sa, _, _⟩ := ha
  obtain ⟨nb, sb, _, _⟩ := hb
  have hf : (Q.mk' (!b.norm.neg) b.norm.n b.norm.d).Nf := Q.mk'_nf _ _ _
  have rf := Q.mk'_rep (!b.norm.neg) b.norm.n b.norm.d (Q.norm_d b)
  have rs := Q.addR_rep (Q.norm_d a) hf.1
  rw [← Q.sub_eq] at rs
  rw [sg_flip, ← Q.s_sg] at rf
  rw [Q.nf_norm nb] at rf
  rw [Q.nf_norm na, Q.nf_norm nb] at rs
  rw [Q.nf_norm nb] at hf
  have hS : (Q.sub a b).Nf := Q.addR_nf _ _
  have ea : a.s = (a.n : Int) := by unfold Q.s; rw [sa]; rfl
  have eb : b.s = (b.n : Int) := by unfold Q.s; rw [sb]; rfl
  rw [ea] at rs
  rw [eb] at rf
  unfold Q.Rep at *
  generalize Q.mk' (!b.neg) b.n b.d = F at *
  have a1 : (0 : Int) < a.d := by have := na.1; omega
  have b1 : (0 : Int) < b.d := by have := nb.1; omega
  have f1 : (0 : Int) < F.d := by have := hf.1; omega
  have s1 : (0 : Int) < (Q.sub a b).d := by have := hS.1; omega
  have key : (Q.sub a b).s * ((a.d : Int) * F.d * b.d) = ((a.n : Int) * b.d - b.n * a.d) * (F.d * (Q.sub a b).d) := by
    push_cast at rs
    generalize (Q.sub a b).s = S at *
    generalize ((Q.sub a b).d : Int) = Sd at *
    generalize F.s = Fs at *
    generalize (a.d : Int) = Ad at *
    generalize (b.d : Int) = Bd at *
    generalize (F.d : Int) = Fd at *
    generalize (a.n : Int) = A at *
    generalize (b.n : Int) = B at *
    have e1 : S * (Ad * Fd * Bd) = (S * (Ad * Fd)) * Bd := by grind
    rw [e1, rs]
    grind
  have p1 : (0 : Int) < (a.d : Int) * F.d * b.d := Int.mul_pos (Int.mul_pos a1 f1) b1
  have p2 : (0 : Int) < (F.d : Int) * (Q.sub a b).d := Int.mul_pos f1 s1
  have c1 : ((a.n * b.d : Nat) : Int) = (a.n : Int) * b.d := Int.natCast_mul _ _
  have c2 : ((b.n * a.d : Nat) : Int) = (b.n : Int) * a.d := Int.natCast_mul _ _
  unfold Q.cmp cmpS
  simp only
  by_cases h1 : a.n * b.d < b.n * a.d
  · rw [if_pos h1]
    have hneg : (Q.sub a b).s < 0 := by
      rcases Int.lt_or_le (Q.sub a b).s 0 with h | h
      · exact h
      · exfalso
        have g1 := Int.mul_nonneg h (Int.le_of_lt p1)
        have g2 : ((a.n : Int) * b.d - b.n * a.d) * (F.d * (Q.sub a b).d) < 0 := Int.mul_neg_of_neg_of_pos (by omega) p2
        omega
    have hn : (Q.sub a b).neg = true := by
      unfold Q.s at hneg
      cases hc : (Q.sub a b).neg
      · rw [hc] at hneg; simp at hneg; omega
      · rfl
    rw [if_pos hn]
  · rw [if_neg h1]
    have hpos : 0 ≤ (Q.sub a b).s := by
      rcases Int.lt_or_le (Q.sub a b).s 0 with h | h
      · exfalso
        have g1 := Int.mul_neg_of_neg_of_pos h p1
        have g2 : 0 ≤ ((a.n : Int) * b.d - b.n * a.d) * (F.d * (Q.sub a b).d) := Int.mul_nonneg (by omega) (Int.le_of_lt p2)
        omega
      · exact h
    have hn : (Q.sub a b).neg = false := by
      cases hc : (Q.sub a b).neg
      · rfl
      · exfalso
        unfold Q.s at hpos
        rw [hc] at hpos
        simp at hpos
        have := hS.2.1 (by omega)
        rw [hc] at this
        exact absurd this (by decide)
    have hs2 : (Q.sub a b).s = ((Q.sub a b).n : Int) := by unfold Q.s; rw [hn]; rfl
    rw [if_neg (by rw [hn]; decide)]
    by_cases h2 : b.n * a.d < a.n * b.d
    · rw [if_pos h2, if_neg]
      intro h0
      rw [hs2, h0] at key
      have g2 : 0 < ((a.n : Int) * b.d - b.n * a.d) * (F.d * (Q.sub a b).d) := Int.mul_pos (by omega) p2
      simp at key
      omega
    · rw [if_neg h2, if_pos]
      have e0 : (a.n : Int) * b.d - b.n * a.d = 0 := by omega
      rw [e0, Int.zero_mul] at key
      have : (Q.sub a b).s = 0 := by
        rcases Int.mul_eq_zero.1 key with h | h
        · exact h
        · omega
      omega

end Go.Proofs.Nums
namespace Go.Proofs.Ythplbhgbgcfogaa
open Go.RowKit Go.Proofs.Kit Go.Proofs.Nums

theorem limb1 {w : World} {p : Option Addr} {l k n : Nat} (h : Nrm w (.slice p l k) n 2) (h0 : 0 < n) (h1 : n < 4294967296) : ∃ b off, p = some ⟨b, off, none⟩ ∧ l = 1 ∧ 1 ≤ k ∧ k ≤ 9223372036854775807 ∧ w.cell? ⟨b, off, none⟩ = some (.int .u32 n) := by
  have e : limbs n = [n] := by rw [limbs_pos n (by omega), Nat.mod_eq_of_lt h1, Nat.div_eq_of_lt h1, limbs_zero]
  have g := h.1
  rw [e] at g
  rcases RowAt.cases g.1 with ⟨h2, _⟩ | ⟨_, b, off, cap, hv, h3, h4, _, hc⟩
  · simp at h2
  · simp only [Value.slice.injEq] at hv
    obtain ⟨rfl, h5, rfl⟩ := hv
    have := hc 0 _ rfl
    exact ⟨b, off, rfl, h5, h3, h4, this⟩
theorem limb0 {w : World} {p : Option Addr} {l k : Nat} (h : Nrm w (.slice p l k) 0 2) : l = 0 := by
  have g := h.1
  rw [limbs_zero] at g
  obtain ⟨p', cap, hv, _⟩ := g.1
  simp only [Value.slice.injEq] at hv
  exact hv.2.1
theorem RatN.parts {w : World} {b : Bool} {vn vd : Value} {q : Q} {L : Nat} (h : RatN w (.agg #[.bool b, vn, vd]) q L) : Nrm w vn q.n L ∧ Nrm w vd q.d L := by
  obtain ⟨y1, y2, ev, g1, g2⟩ := h
  simp only [Value.agg.injEq, Array.mk.injEq, List.cons.injEq, and_true] at ev
  obtain ⟨-, rfl, rfl⟩ := ev
  exact ⟨g1, g2⟩

set_option maxHeartbeats 2000000 in
theorem short_c {w : World} {p1 p2 : Option Addr} {l1 k1 l2 k2 : Nat} {q : Q} (h : RatN w (.agg #[.bool false, .slice p1 l1 k1, .slice p2 l2 k2]) q 2) (hs : ShQ q) :
    Calls Try.prog 55 #[.agg #[.bool false, .slice p1 l1 k1, .slice p2 l2 k2]] w fun e w' => e = .returned (.bool true) ∧ Below w.heap.size w w' := by
  obtain ⟨h1, h2⟩ := h.parts
  have d0 : 0 < q.d := hs.1.1
  obtain ⟨bd, od, rfl, rfl, c1, c2, cd⟩ := limb1 h2 d0 hs.2.2.2
  have hl1 : l1 ≤ 1 := by
    rcases Nat.eq_zero_or_pos q.n with h0 | h0
    · rw [h0] at h1; have := limb0 h1; omega
    · obtain ⟨_, _, _, e, _⟩ := limb1 h1 h0 hs.2.2.1; omega
  have hl1z : (l1 : Int) ≤ 1 := by omega
  obtain ⟨d, hd⟩ : ∃ d, q.d = d := ⟨_, rfl⟩
  rw [hd] at cd d0
  have gd : (0 : Int) < (d : Int) := by omega
  have e0 := cell_alloc_old (o := .cells #[.bool false, .slice p1 l1 k1, .slice (some ⟨bd, od, none⟩) 1 k2] 43) cd
  obtain ⟨m0, m1, m2⟩ := (Blk.new w #[.bool false, .slice p1 l1 k1, .slice (some ⟨bd, od, none⟩) 1 k2] 43).three
  clear h h1 h2 hs hd cd
  go_enter Try.func55, Try.ntmps55
  go_wp2_with fail
  go_ret
  exact ⟨rfl, (Below.refl _ _).alloc (Nat.le_refl _) _⟩

set_option maxHeartbeats 2000000 in
theorem times_c {w : World} {p1 p2 p3 p4 : Option Addr} {l1 k1 l2 k2 l3 k3 l4 k4 : Nat} {a b : Q} (ha : RatN w (.agg #[.bool false, .slice p1 l1 k1, .slice p2 l2 k2]) a 2) (sa : ShQ a) (hb : RatN w (.agg #[.bool false, .slice p3 l3 k3, .slice p4 l4 k4]) b 2) (sb : ShQ b) :
    Calls Try.prog 58 #[.agg #[.bool false, .slice p1 l1 k1, .slice p2 l2 k2], .agg #[.bool false, .slice p3 l3 k3, .slice p4 l4 k4]] w fun e w' => e = .returned (.int .u64 ((a.n * b.d : Nat) : Int)) ∧ Below w.heap.size w w' := by
  obtain ⟨h1, _⟩ := ha.parts
  obtain ⟨_, h2⟩ := hb.parts
  have d0 : 0 < b.d := sb.1.1
  have ls := sb.2.2.2
  have ln := sa.2.2.1
  obtain ⟨bd, od, rfl, rfl, c1, c2, cd⟩ := limb1 h2 d0 ls
  obtain ⟨d, hd⟩ : ∃ d, b.d = d := ⟨_, rfl⟩
  obtain ⟨n, hn⟩ : ∃ d, a.n = d := ⟨_, rfl⟩
  rw [hd] at cd d0 ls ⊢
  rw [hn] at h1 ln ⊢
  rcases Nat.eq_zero_or_pos n with h0 | h0
  · subst h0
    obtain rfl := limb0 h1
    rw [Nat.zero_mul]
    obtain ⟨m0, m1, m2⟩ := ((Blk.new w #[.bool false, .slice p1 0 k1, .slice p2 l2 k2] 43).alloc (.cells #[.bool false, .slice p3 l3 k3, .slice (some ⟨bd, od, none⟩) 1 k4] 43)).three
    clear ha sa hb sb h1 h2 hd hn cd
    go_enter Try.func58, Try.ntmps58
    go_wp2_with fail
    go_ret
    exact ⟨rfl, ((Below.refl _ _).alloc (Nat.le_refl _) _).alloc (by simp) _⟩
  · obtain ⟨bn, on, rfl, rfl, c3, c4, cn⟩ := limb1 h1 h0 ln
    have e0 := cell_alloc_old (o := .cells #[.bool false, .slice p3 l3 k3, .slice (some ⟨bd, od, none⟩) 1 k4] 43) (cell_alloc_old (o := .cells #[.bool false, .slice (some ⟨bn, on, none⟩) 1 k1, .slice p2 l2 k2] 43) cd)
    have e1 := cell_alloc_old (o := .cells #[.bool false, .slice p3 l3 k3, .slice (some ⟨bd, od, none⟩) 1 k4] 43) (cell_alloc_old (o := .cells #[.bool false, .slice (some ⟨bn, on, none⟩) 1 k1, .slice p2 l2 k2] 43) cn)
    obtain ⟨m0, m1, m2⟩ := ((Blk.new w #[.bool false, .slice (some ⟨bn, on, none⟩) 1 k1, .slice p2 l2 k2] 43).alloc (.cells #[.bool false, .slice p3 l3 k3, .slice (some ⟨bd, od, none⟩) 1 k4] 43)).three
    have hk := Blk.new (w.alloc (.cells #[.bool false, .slice (some ⟨bn, on, none⟩) 1 k1, .slice p2 l2 k2] 43)) #[.bool false, .slice p3 l3 k3, .slice (some ⟨bd, od, none⟩) 1 k4] 43
    rw [World.size_alloc] at hk
    obtain ⟨n0, n1, n2⟩ := hk.three
    have hmul : (n : Int) * (d : Int) = ((n * d : Nat) : Int) := (Int.natCast_mul n d).symm
    have hlt : n * d < 4294967296 * 4294967296 := Nat.mul_lt_mul'' ln ls
    obtain ⟨x, hx⟩ : ∃ x, n * d = x := ⟨_, rfl⟩
    rw [hx] at hmul hlt ⊢
    have w1 : IntKind.u64.wrap (n : Int) = (n : Int) := wu64 (by omega) (by omega)
    have w2 : IntKind.u64.wrap (d : Int) = (d : Int) := wu64 (by omega) (by omega)
    have w3 : IntKind.u64.wrap (x : Int) = (x : Int) := wu64 (by omega) (by omega)
    clear ha sa hb sb h1 h2 hd hn cd cn hk hx
    go_enter Try.func58, Try.ntmps58
    go_wp2_with fail
    go_quiet (fail)
    go_wp2_with fail
    go_ret
    exact ⟨rfl, below_drewN (((Below.refl _ _).alloc (Nat.le_refl _) _).alloc (by simp) _) _⟩

theorem Blk.six2 {b b' : Nat} {a0 a1 a2 b0 b1 b2 : Value} {w : World} (h : Blk b #[a0, a1, a2] w) (g : Blk b' #[b0, b1, b2] w) :
    w.cell? ⟨b, 0, none⟩ = some a0 ∧ w.cell? ⟨b, 1, none⟩ = some a1 ∧ w.cell? ⟨b, 2, none⟩ = some a2 ∧ w.cell? ⟨b', 0, none⟩ = some b0 ∧ w.cell? ⟨b', 1, none⟩ = some b1 ∧ w.cell? ⟨b', 2, none⟩ = some b2 :=
  ⟨h.three.1, h.three.2.1, h.three.2.2, g.three.1, g.three.2.1, g.three.2.2⟩

set_option maxRecDepth 100000 in
set_option maxHeartbeats 4000000 in
theorem compare_c {w : World} {p1 p2 p3 p4 : Option Addr} {l1 k1 l2 k2 l3 k3 l4 k4 : Nat} {a b : Q} (ha : RatN w (.agg #[.bool false, .slice p1 l1 k1, .slice p2 l2 k2]) a 2) (sa : ShQ a) (hb : RatN w (.agg #[.bool false, .slice p3 l3 k3, .slice p4 l4 k4]) b 2) (sb : ShQ b) :
    Calls Try.prog 44 #[.agg #[.bool false, .slice p1 l1 k1, .slice p2 l2 k2], .agg #[.bool false, .slice p3 l3 k3, .slice p4 l4 k4]] w fun e w' => e = .returned (.int .i64 (cmpS a b)) ∧ Below w.heap.size w w' := by
  have S1 : Hid (∀ w', Below w.heap.size w w' → Calls Try.prog 55 #[.agg #[.bool false, .slice p1 l1 k1, .slice p2 l2 k2]] w' fun e w'' => e = .returned (.bool true) ∧ Below w'.heap.size w' w'') := Lib.hid (fun w' h => short_c (ha.keep h) sa)
  have S2 : Hid (∀ w', Below w.heap.size w w' → Calls Try.prog 55 #[.agg #[.bool false, .slice p3 l3 k3, .slice p4 l4 k4]] w' fun e w'' => e = .returned (.bool true) ∧ Below w'.heap.size w' w'') := Lib.hid (fun w' h => short_c (hb.keep h) sb)
  have M1 : Hid (∀ w', Below w.heap.size w w' → Calls Try.prog 58 #[.agg #[.bool false, .slice p1 l1 k1, .slice p2 l2 k2], .agg #[.bool false, .slice p3 l3 k3, .slice p4 l4 k4]] w' fun e w'' => e = .returned (.int .u64 ((a.n * b.d : Nat) : Int)) ∧ Below w'.heap.size w' w'') := Lib.hid (fun w' h => times_c (ha.keep h) sa (hb.keep h) sb)
  have M2 : Hid (∀ w', Below w.heap.size w w' → Calls Try.prog 58 #[.agg #[.bool false, .slice p3 l3 k3, .slice p4 l4 k4], .agg #[.bool false, .slice p1 l1 k1, .slice p2 l2 k2]] w' fun e w'' => e = .returned (.int .u64 ((b.n * a.d : Nat) : Int)) ∧ Below w'.heap.size w' w'') := Lib.hid (fun w' h => times_c (hb.keep h) sb (ha.keep h) sa)
  obtain ⟨x, hx⟩ : ∃ x, a.n * b.d = x := ⟨_, rfl⟩
  obtain ⟨y, hy⟩ : ∃ x, b.n * a.d = x := ⟨_, rfl⟩
  rw [hx] at M1
  rw [hy] at M2
  have HC : Hid (cmpS a b = if x < y then -1 else if y < x then 1 else 0) := Lib.hid (by unfold cmpS; rw [hx, hy])
  obtain ⟨z, hz⟩ : ∃ z, cmpS a b = z := ⟨_, rfl⟩
  rw [hz] at HC ⊢
  obtain ⟨W, hW⟩ : ∃ W, ((w.alloc (.cells #[.bool false, .slice p1 l1 k1, .slice p2 l2 k2] 43)).alloc (.cells #[.bool false, .slice p3 l3 k3, .slice p4 l4 k4] 43)) = W := ⟨_, rfl⟩
  have hBW : Below w.heap.size w W := by rw [← hW]; exact ((Below.refl _ _).alloc (Nat.le_refl _) _).alloc (by simp) _
  have A0 : Blk w.heap.size #[.bool false, .slice p1 l1 k1, .slice p2 l2 k2] W := by rw [← hW]; exact (Blk.new w _ _).alloc _
  have A1 : Blk (w.heap.size + 1) #[.bool false, .slice p3 l3 k3, .slice p4 l4 k4] W := by
    rw [← hW]
    have := Blk.new (w.alloc (.cells #[.bool false, .slice p1 l1 k1, .slice p2 l2 k2] 43)) #[.bool false, .slice p3 l3 k3, .slice p4 l4 k4] 43
    rwa [World.size_alloc] at this
  have B0 := Lib.hid A0
  have B1 := Lib.hid A1
  obtain ⟨m0, m1, m2⟩ := A0.three
  obtain ⟨n0, n1, n2⟩ := A1.three
  clear ha hb sa sb hx hy hz A0 A1
  go_enter Try.func44, Try.ntmps44
  go_wp2_with (first
    | (go_at_call 55; ((with_reducible refine (S1.out _ hBW).mono ?_); rintro e w1 ⟨rfl, hb1⟩; have hB1 := bel2' hBW hb1; have C0 := Lib.hid (B0.out.keep hb1); have C1 := Lib.hid (B1.out.keep hb1); obtain ⟨k0, k1', k2'⟩ := C1.out.three))
    | (go_at_call 55; ((with_reducible refine (S2.out _ hB1).mono ?_); rintro e w2 ⟨rfl, hb2⟩; have hB2 := (bel2' hB1 hb2).drew; have D0 := Lib.hid (C0.out.keep hb2).drew; have D1 := Lib.hid (C1.out.keep hb2).drew)))
  go_region_held3 (fun w' => w'.cell? ⟨w.heap.size, 0, none⟩ = some (.bool false) ∧ w'.cell? ⟨w.heap.size, 1, none⟩ = some (.slice p1 l1 k1) ∧ w'.cell? ⟨w.heap.size, 2, none⟩ = some (.slice p2 l2 k2) ∧ w'.cell? ⟨w.heap.size + 1, 0, none⟩ = some (.bool false) ∧ w'.cell? ⟨w.heap.size + 1, 1, none⟩ = some (.slice p3 l3 k3) ∧ w'.cell? ⟨w.heap.size + 1, 2, none⟩ = some (.slice p4 l4 k4))
    (first | exact Blk.six2 E0.out E1.out | exact Blk.six2 F0.out F1.out | exact Blk.six2 D0.out D1.out)
    (first
    | (go_at_call 58; ((with_reducible refine (M1.out _ hB2).mono ?_); rintro e w3 ⟨rfl, hb3⟩; have hB3 := bel2' hB2 hb3; have F0 := Lib.hid (D0.out.keep hb3); have F1 := Lib.hid (D1.out.keep hb3)))
    | (go_at_call 58; ((with_reducible refine (M2.out _ hB2).mono ?_); rintro e w3 ⟨rfl, hb3⟩; have hB3 := bel2' hB2 hb3; have F0 := Lib.hid (D0.out.keep hb3); have F1 := Lib.hid (D1.out.keep hb3)))
    | (go_at_call 58; ((with_reducible refine (M1.out _ hB3).mono ?_); rintro e w4 ⟨rfl, hb4⟩; have hB4 := bel2' hB3 hb4; have E0 := Lib.hid (F0.out.keep hb4); have E1 := Lib.hid (F1.out.keep hb4)))
    | (go_at_call 58; ((with_reducible refine (M2.out _ hB3).mono ?_); rintro e w4 ⟨rfl, hb4⟩; have hB4 := bel2' hB3 hb4; have E0 := Lib.hid (F0.out.keep hb4); have E1 := Lib.hid (F1.out.keep hb4))))
  all_goals
    by_cases c1 : x < y
    · have d1 : (x : Int) < (y : Int) := by omega
      have HZ : Hid (z = -1) := Lib.hid (by rw [HC.out, if_pos c1])
      clear c1
      go_wp2_with fail
      go_ret
      exact ⟨ret_ii HZ.out.symm, hB4⟩
    · have d1 : ¬ (x : Int) < (y : Int) := by omega
      by_cases c2 : y < x
      · have d2 : (y : Int) < (x : Int) := by omega
        have HZ : Hid (z = 1) := Lib.hid (by rw [HC.out, if_neg c1, if_pos c2])
        clear c1 c2
        go_wp2_with fail
        go_ret
        exact ⟨ret_ii HZ.out.symm, hB4⟩
      · have d2 : ¬ (y : Int) < (x : Int) := by omega
        have HZ : Hid (z = 0) := Lib.hid (by rw [HC.out, if_neg c1, if_neg c2])
        clear c1 c2
        go_wp2_with fail
        go_ret
        exact ⟨ret_ii HZ.out.symm, hB4⟩

end Go.Proofs.Ythplbhgbgcfogaa
