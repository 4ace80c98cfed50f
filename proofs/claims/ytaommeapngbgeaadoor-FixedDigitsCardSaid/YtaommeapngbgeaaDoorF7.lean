/- fixed.Ratio; when one fraction is at most another. -/
import Derived.Test.YtaommeapngbgeaaDoorF6
import Derived.Test.YtaommeapngbgeaaDoorR13
import Derived.Test.YtaommeapngbgeaaDoorR9
namespace Go.Proofs.Nums

theorem Q.cmp_le {a b : Q} {z t : Int} {d e : Nat} (na : a.Nf) (nb : b.Nf) (ha : a.Rep z d) (hb : b.Rep t e) (hd : 0 < d) (he : 0 < e) (h : z * (e : Int) ≤ t * (d : Int)) : Q.cmp a b ≤ 0 := by
  have hf : (Q.mk' (!b.norm.neg) b.norm.n b.norm.d).Nf := Q.mk'_nf _ _ _
  have rf := Q.mk'_rep (!b.norm.neg) b.norm.n b.norm.d (Q.norm_d b)
  have rs := Q.addR_rep (Q.norm_d a) hf.1
  rw [← Q.sub_eq] at rs
  rw [sg_flip, ← Q.s_sg] at rf
  rw [Q.nf_norm nb] at rf
  rw [Q.nf_norm na, Q.nf_norm nb] at rs
  rw [Q.nf_norm nb] at hf
  have hS : (Q.sub a b).Nf := Q.addR_nf _ _
  unfold Q.Rep at *
  generalize Q.mk' (!b.neg) b.n b.d = F at *
  have key : (Q.sub a b).s ≤ 0 := by
    have a1 : (0 : Int) < a.d := by have := na.1; omega
    have b1 : (0 : Int) < b.d := by have := nb.1; omega
    have f1 : (0 : Int) < F.d := by have := hf.1; omega
    have s1 : (0 : Int) < (Q.sub a b).d := by have := hS.1; omega
    have d1 : (0 : Int) < d := by omega
    have e1 : (0 : Int) < e := by omega
    push_cast at rs
    generalize (Q.sub a b).s = S at *
    generalize ((Q.sub a b).d : Int) = Sd at *
    generalize a.s = A at *
    generalize b.s = B at *
    generalize F.s = Fs at *
    generalize (a.d : Int) = Ad at *
    generalize (b.d : Int) = Bd at *
    generalize (F.d : Int) = Fd at *
    generalize (d : Int) = D at *
    generalize (e : Int) = E at *
    have k1 : A * Bd ≤ B * Ad := by
      have g1 : (z * E) * (Ad * Bd) ≤ (t * D) * (Ad * Bd) := Int.mul_le_mul_of_nonneg_right h (Int.mul_nonneg (by omega) (by omega))
      have g2 : (z * E) * (Ad * Bd) = (A * Bd) * (D * E) := by grind
      have g3 : (t * D) * (Ad * Bd) = (B * Ad) * (D * E) := by grind
      rw [g2, g3] at g1
      exact Int.le_of_mul_le_mul_right g1 (Int.mul_pos d1 e1)
    have k2 : A * Fd + Fs * Ad ≤ 0 := by
      have g1 : (A * Bd) * Fd ≤ (B * Ad) * Fd := Int.mul_le_mul_of_nonneg_right k1 (by omega)
      have g2 : (A * Fd + Fs * Ad) * Bd = (A * Bd) * Fd - (B * Ad) * Fd := by grind
      have g3 : (A * Fd + Fs * Ad) * Bd ≤ 0 * Bd := by rw [g2]; omega
      exact Int.le_of_mul_le_mul_right g3 b1
    have g1 : (A * Fd + Fs * Ad) * Sd ≤ 0 * Sd := Int.mul_le_mul_of_nonneg_right k2 (by omega)
    have g2 : S * (Ad * Fd) ≤ 0 * (Ad * Fd) := by
      rw [rs, Int.zero_mul]; rw [Int.zero_mul] at g1; exact g1
    exact Int.le_of_mul_le_mul_right g2 (Int.mul_pos a1 f1)
  unfold Q.cmp
  simp only
  by_cases h1 : (Q.sub a b).neg = true
  · rw [if_pos h1]; decide
  · rw [if_neg h1]
    unfold Q.s at key
    rw [if_neg h1] at key
    rw [if_pos (by omega)]
    decide

end Go.Proofs.Nums
namespace Go.Proofs.YtaommeapngbgeaaDoor
open Go.RowKit Go.Proofs.Kit Go.Proofs.Nums

/-- A call that hands back a Ratio in normal form. -/
def GivesN (q : Q) (L : Nat) (w : World) (e : Ending) (w' : World) : Prop := ∃ p l k p' l' k', e = .returned (.agg #[.bool q.neg, .slice p l k, .slice p' l' k']) ∧ RatN w' (.agg #[.bool q.neg, .slice p l k, .slice p' l' k']) q L ∧ Below w.heap.size w w'
theorem gn_of {P : Program} {f : FuncId} {args : Array Value} {w : World} {q : Q} {L : Nat} (h : Calls P f args w fun e w' => ∃ v, e = .returned v ∧ RatN w' v q L ∧ Below w.heap.size w w') : Calls P f args w (GivesN q L w) :=
  h.mono (by
    rintro e w' ⟨v, rfl, hv, hb⟩
    have hv2 := hv
    obtain ⟨p1, l1, k1, p2, l2, k2, rfl, _, _⟩ := hv.shape
    exact ⟨_, _, _, _, _, _, rfl, hv2, hb⟩)
theorem eqR_self (n : Bool) (a b : List Nat) : eqR n a b n a b = true := by unfold eqR; rw [eqN_self, eqN_self]; simp
theorem RatN.l {w : World} {v : Value} {q : Q} {L : Nat} (h : RatN w v q L) : RatL w v q.neg (limbs q.n) (limbs q.d) := by
  obtain ⟨vn, vd, h1, h2, h3⟩ := h; exact ⟨vn, vd, h1, h2.1, h3.1⟩
theorem RatN.lens {w : World} {v : Value} {q : Q} {L : Nat} (h : RatN w v q L) : (limbs q.n).length ≤ L ∧ (limbs q.d).length ≤ L := by
  obtain ⟨vn, vd, h1, h2, h3⟩ := h; exact ⟨h2.len, h3.len⟩
theorem RatN.al {w : World} {v : Value} {q : Q} {L : Nat} (h : RatN w v q L) (o : Obj) : RatN (w.alloc o) v q L := h.keep ((Below.refl _ _).alloc (Nat.le_refl _) _)
theorem bal {w0 w : World} (h : Below w0.heap.size w0 w) (o : Obj) : Below w0.heap.size w0 (w.alloc o) := h.alloc h.size o

set_option maxHeartbeats 2000000 in
theorem fratio_num {va : Value} {n d L : Nat} {z : Int} {w : World} (ha : Num w va n L) (hL : L ≤ 300) (hz : z = (d : Int)) (hd : d ≤ 6) :
    Calls Tryd.prog 22 #[va, .int .i64 z] w fun e w' => ∃ v, e = .returned v ∧ RatN w' v (Q.mk' false n (10 ^ d)) 300 ∧ Below w.heap.size w w' := by
  have P := Lib.hid (fun w => power_in d z w hz hd)
  have MK : Hid (∀ vp w', Below w.heap.size w w' → Num w' vp (10 ^ d) 61 → Calls Tryd.prog 23 #[.bool false, va, vp] w' (GivesN (Q.mk' false n (10 ^ d)) 300 w')) := Lib.hid (fun vp w' h h' => gn_of (make_num ((ha.keep h).wider hL) (h'.wider (by omega)) (by omega) (by omega)))
  obtain ⟨p, hp⟩ : ∃ p, 10 ^ d = p := ⟨_, rfl⟩
  rw [hp] at P MK ⊢
  obtain ⟨⟨qn, qN, qD⟩, hq⟩ : ∃ q, Q.mk' false n p = q := ⟨_, rfl⟩
  rw [hq] at MK ⊢
  clear ha hL hz hd hp hq
  have B0 := Lib.hid (Blk.new w #[.bool false, .slice none 0 0, .slice none 0 0] 42)
  have hBd : Below w.heap.size w (w.alloc (.cells #[.bool false, .slice none 0 0, .slice none 0 0] 42)) := (Below.refl _ _).alloc (Nat.le_refl _) _
  go_enter Tryd.func22, Tryd.ntmps22
  go_wp2_with (first
    | (go_at_call 38; ((with_reducible refine (P.out _).mono ?_); rintro e w1 ⟨v1, rfl, hv1, hb1⟩; have hB1 := bel2' hBd hb1; have B1 := Lib.hid (B0.out.keep hb1)))
    | (go_at_call 23; ((with_reducible refine (MK.out _ _ hB1 hv1).mono ?_); rintro e w2 ⟨p1, l1, k1, p2, l2, k2, rfl, hv2, hb2⟩; have hB2 := bel2' hB1 hb2; have B2 := Lib.hid (B1.out.keep hb2); obtain ⟨m0, m1, m2⟩ := B2.out.three; obtain ⟨t0, t1, t2⟩ := B2.out.free3)))
  refine bodyPost_ret (v := .agg #[.bool qn, .slice p1 l1 k1, .slice p2 l2 k2]) (by simp [results, Tryd.results22, go_sem, m0, m1, m2]) rfl ?_
  obtain ⟨a1, a2, e, g1, g2⟩ := hv2
  simp only [Value.agg.injEq, Array.mk.injEq, List.cons.injEq, and_true, true_and] at e
  obtain ⟨rfl, rfl⟩ := e
  have g := retN (q := ⟨qn, qN, qD⟩) hB2 (Nat.le_refl _) B2.out (by simp) (by simp) (by simp) g1 g2
  exact ⟨_, rfl, g.1, g.2⟩

set_option maxHeartbeats 2000000 in
theorem fratio_out {va : Value} {z : Int} {w : World} (hz : z < 0 ∨ 6 < z) :
    Calls Tryd.prog 22 #[va, .int .i64 z] w fun e w' => e = .returned (.agg #[.bool false, .slice none 0 0, .slice none 0 0]) ∧ Below w.heap.size w w' := by
  have P := Lib.hid (fun w => power_out z w hz)
  clear hz
  have B0 := Lib.hid (Blk.new w #[.bool false, .slice none 0 0, .slice none 0 0] 42)
  have hBd : Below w.heap.size w (w.alloc (.cells #[.bool false, .slice none 0 0, .slice none 0 0] 42)) := (Below.refl _ _).alloc (Nat.le_refl _) _
  go_enter Tryd.func22, Tryd.ntmps22
  go_wp2_with (go_at_call 38; ((with_reducible refine (P.out _).mono ?_); rintro e w1 ⟨rfl, hb1⟩; have hB1 := bel2' hBd hb1; have B1 := Lib.hid (B0.out.keep hb1); obtain ⟨m0, m1, m2⟩ := B1.out.three; obtain ⟨t0, t1, t2⟩ := B1.out.free3))
  refine bodyPost_ret (v := .agg #[.bool false, .slice none 0 0, .slice none 0 0]) (by simp [results, Tryd.results22, go_sem, m0, m1, m2]) rfl ?_
  exact ⟨rfl, below_set3 hB1 (Nat.le_refl _) _ _ _⟩

end Go.Proofs.YtaommeapngbgeaaDoor
