import Derived.Test.YtlhkjkhbgebgiaaM2
namespace Go.Proofs.Ytlhkjkhbgebgiaa
open Go.RowKit Go.Proofs.Kit Go.Proofs.Nums

/-- slices.Equal at []uint32. -/
theorem equal_any (va vb : Value) (a b : List Nat) (w : World) (ha : NatAt w va a) (hb : NatAt w vb b) (hla : a.length ≤ 1000000) (_hlb : b.length ≤ 1000000) :
    Calls Try.prog 40 #[va, vb] w fun e w' => e = .returned (.bool (eqN a b)) ∧ Below w.heap.size w w' := by
  obtain ⟨p1, c1, rfl⟩ := ha.shape
  obtain ⟨p2, c2, rfl⟩ := hb.shape
  have HA := Lib.hid ha
  have HB := Lib.hid hb
  clear ha hb
  by_cases hl : a.length = b.length
  · have hl1 : a.length ≤ b.length := by omega
    have hl2 : b.length ≤ a.length := by omega
    have hne : ((a.length : Int) != (b.length : Int)) = false := by rw [hl]; simp
    have HL := Lib.hid hl
    clear hl
    go_enter Try.func40, Try.ntmps40
    go_wp2_with fail
    go_loopw [13] (fun i wr => ∃ k : Nat, k ≤ a.length ∧ i = .int .i64 k ∧ (∃ n, wr = w.drewN n) ∧ Hid (∀ j, j < k → nth a j = nth b j)) (fun i _ => a.length - (intOf i).toNat)
    case atStart => exact ⟨0, by omega, rfl, ⟨0, rfl⟩, Lib.hid fun _ h => absurd h (by omega)⟩
    case round =>
      obtain ⟨k, hk, rfl, ⟨n, rfl⟩, hP⟩ := hrel
      by_cases hlt : k < a.length
      · rcases HA.out.cases with ⟨hx0, _⟩ | ⟨_, b1, o1, k1, hv1, hk1, hm1, hb1, hcell1⟩
        · rw [hx0] at hlt; simp at hlt
        rcases HB.out.cases with ⟨hy0, _⟩ | ⟨_, b2, o2, k2, hv2, hk2, hm2, hb2, hcell2⟩
        · exfalso; rw [hy0] at hl1; simp only [List.length_nil] at hl1; omega
        simp only [Value.slice.injEq] at hv1 hv2
        obtain ⟨rfl, _, rfl⟩ := hv1
        obtain ⟨rfl, _, rfl⟩ := hv2
        have q1 := hcell1 k (by omega)
        have q2 := hcell2 k (by omega)
        clear hcell1 hcell2
        by_cases heq : nth a k = nth b k
        · have HEQ := Lib.hid heq
          have hb' : ((nth a k : Int) != (nth b k : Int)) = false := by rw [heq]; simp
          clear heq
          go_wp2_with fail
          go_quiet (fail)
          go_wp2_with fail
          go_roundw
          case rel =>
            refine ⟨k + 1, by omega, by go_num, ⟨_, by first | rfl | (rw [World.drewN_drewN])⟩, Lib.hid fun j hj => ?_⟩
            by_cases hjk : j < k
            · exact hP.out j hjk
            · obtain rfl : j = k := by omega
              exact HEQ.out
          case measure => simp [intOf] <;> omega
        · have HE := Lib.hid (eqN_ne heq)
          have hb' : ((nth a k : Int) != (nth b k : Int)) = true := by rw [bne_iff_ne]; omega
          clear heq
          go_wp2_with fail
          go_quiet (fail)
          go_wp2_with fail
          go_ret
          exact ⟨ret_v (by rw [HE.out]), below_drewN (below_drewN (Below.refl _ _) _) _⟩
      · have HE := Lib.hid (eqN_all HL.out (fun j hj => hP.out j (by omega)))
        go_wp2_with fail
        go_ret
        exact ⟨ret_v (by rw [HE.out]), below_drewN (Below.refl _ _) _⟩
  · have HE := Lib.hid (eqN_len hl)
    have hne : ((a.length : Int) != (b.length : Int)) = true := by rw [bne_iff_ne]; omega
    clear hl
    go_enter Try.func40, Try.ntmps40
    go_wp2_with fail
    go_ret
    exact ⟨ret_v (by rw [HE.out]), Below.refl _ _⟩

/-- Is the Ratio with these fields in normal form? -/
def validR (neg : Bool) (a b : List Nat) : Bool :=
  (neg == (Q.mk' neg (val a) (val b)).neg) && eqN a (limbs (Q.mk' neg (val a) (val b)).n) && eqN b (limbs (Q.mk' neg (val a) (val b)).d)

/-- v is a Ratio with these fields, limb by limb. -/
def RatL (w : World) (v : Value) (neg : Bool) (a b : List Nat) : Prop := ∃ vn vd, v = .agg #[.bool neg, vn, vd] ∧ NatAt w vn a ∧ NatAt w vd b
theorem RatL.keep {w w' : World} {v : Value} {neg : Bool} {a b : List Nat} (h : RatL w v neg a b) (hb : Below w.heap.size w w') : RatL w' v neg a b := by
  obtain ⟨vn, vd, h1, h2, h3⟩ := h; exact ⟨vn, vd, h1, h2.keep hb, h3.keep hb⟩
theorem RatL.at {w : World} {v : Value} {neg : Bool} {a b : List Nat} {L : Nat} (h : RatL w v neg a b) (ha : a.length ≤ L) (hb : b.length ≤ L) : RatAt w v ⟨neg, val a, val b⟩ L := by
  obtain ⟨vn, vd, h1, h2, h3⟩ := h; exact ⟨vn, vd, h1, Num.of h2 ha, Num.of h3 hb⟩

set_option maxHeartbeats 4000000 in
theorem valid_r {v : Value} {neg : Bool} {a b : List Nat} {L : Nat} {w : World} (h : RatL w v neg a b) (ha : a.length ≤ L) (hb : b.length ≤ L) (hL : L ≤ 100000) (hL2 : 2 ≤ L) :
    Calls Try.prog 26 #[v] w fun e w' => e = .returned (.bool (validR neg a b)) ∧ Below w.heap.size w w' := by
  have hat := h.at ha hb
  obtain ⟨vn, vd, rfl, h1, h2⟩ := h
  obtain ⟨p1, k1, rfl⟩ := h1.shape
  obtain ⟨p2, k2, rfl⟩ := h2.shape
  unfold validR
  obtain ⟨⟨qn, qa, qb⟩, hq⟩ : ∃ q, Q.mk' neg (val a) (val b) = q := ⟨_, rfl⟩
  have NO : Hid (∀ w', Below w.heap.size w w' → Calls Try.prog 39 #[.agg #[.bool neg, .slice p1 a.length k1, .slice p2 b.length k2]] w' fun e w'' => ∃ v', e = .returned v' ∧ RatN w'' v' ⟨qn, qa, qb⟩ L ∧ Below w'.heap.size w' w'') := Lib.hid (fun w' hb' => by
    have := norm_r (hat.keep hb') (by omega) hL2
    unfold Q.norm at this
    rw [hq] at this; exact this)
  rw [hq]
  have H1 := Lib.hid h1
  have H2 := Lib.hid h2
  have E1 : Hid (∀ va vb w, NatAt w va a → Nrm w vb qa L → Calls Try.prog 40 #[va, vb] w fun e w' => e = .returned (.bool (eqN a (limbs qa))) ∧ Below w.heap.size w w') := Lib.hid (fun va vb w h h' => equal_any va vb _ _ w h h'.1 (by omega) (Nat.le_trans h'.len (by omega)))
  have E2 : Hid (∀ va vb w, NatAt w va b → Nrm w vb qb L → Calls Try.prog 40 #[va, vb] w fun e w' => e = .returned (.bool (eqN b (limbs qb))) ∧ Below w.heap.size w w') := Lib.hid (fun va vb w h h' => equal_any va vb _ _ w h h'.1 (by omega) (Nat.le_trans h'.len (by omega)))
  obtain ⟨t1, ht1⟩ : ∃ t1, eqN a (limbs qa) = t1 := ⟨_, rfl⟩
  obtain ⟨t2, ht2⟩ : ∃ t2, eqN b (limbs qb) = t2 := ⟨_, rfl⟩
  rw [ht1] at E1 ⊢
  rw [ht2] at E2 ⊢
  clear h1 h2 hat hq ht1 ht2
  cases neg <;> cases qn <;> cases t1
  all_goals
    go_enter Try.func26, Try.ntmps26
    go_wp2_with (first
      | (go_at_call 39; ((with_reducible refine (NO.out _ ((Below.refl _ _).alloc (Nat.le_refl _) _)).mono ?_); rintro e w1 ⟨v1, rfl, hv1, hb1⟩; obtain ⟨x1, y1, z1, x2, y2, z2, rfl, hvn, hvd⟩ := hv1.shape; have hb1' := below_on hb1; have c0 := new_cell hb1 0; have c1 := new_cell hb1 1; have c2 := new_cell hb1 2; simp at c0 c1 c2; have hlt : w.heap.size < w1.heap.size := Nat.lt_of_lt_of_le (by simp) hb1.size; have hal : ∀ o, Below w1.heap.size w1 (w1.alloc o) := fun o => (Below.refl _ _).alloc (Nat.le_refl _) _))
      | (go_at_call 40; ((with_reducible refine (E1.out _ _ _ (H1.out.keep (bel2' hb1' (hal _))) (hvn.keep (hal _))).mono ?_); rintro e w2 ⟨rfl, hb2⟩; have hb2' := bel2' (bel2' hb1' (hal _)) hb2; have d0 := fun o x => cell_on (b := w.heap.size) (off := o) (v := x) hb2; have hvd2 := (hvd.keep (hal _)).keep hb2; have q2 := d0 2 _ c2; have n2 := new_cell hb2 2; simp at n2; clear d0))
      | (go_at_call 40; ((with_reducible refine (E2.out _ _ _ (H2.out.keep hb2') hvd2).mono ?_); rintro e w3 ⟨rfl, hb3⟩; have hb3' := bel2' hb2' hb3)))
    go_ret
    first
      | exact ⟨rfl, hb3'⟩
      | exact ⟨rfl, hb2'⟩
      | exact ⟨rfl, bel2' hb1' (hal _)⟩

end Go.Proofs.Ytlhkjkhbgebgiaa
