import Derived.Test.YtlhkjkhbgebgiaaR8
import Derived.Test.YtlhkjkhbgebgiaaR7
namespace Go.Proofs.Ytlhkjkhbgebgiaa
open Go.RowKit Go.Proofs.Kit Go.Proofs.Nums

theorem word_n {n : Nat} {z : Int} {w : World} (hz : z = (n : Int)) (hn : n < 18446744073709551616) :
    Calls Try.prog 36 #[.int .u64 z] w fun e w' => ∃ v', e = .returned v' ∧ BitAt w' v' (bitsN n) ∧ Below w.heap.size w w' := by
  subst hz
  have hlow : n % 4294967296 < 4294967296 := Nat.mod_lt _ (by omega)
  have hhigh : n / 4294967296 < 4294967296 := by omega
  have hA := NatAt.lit2 w (n % 4294967296) (n / 4294967296) hlow hhigh
  have hv : val [n % 4294967296, n / 4294967296] = n := by simp only [val]; omega
  have F := Lib.hid (from_any _ _ _ hA (by simp))
  have HV := Lib.hid hv
  clear hA hv
  go_enter Try.func36, Try.ntmps36
  go_wp2_with (go_at_call 37; refine F.out.mono ?_; rw [HV.out]; rintro e w1 ⟨v1, rfl, hv1, hb1⟩)
  go_ret
  exact ⟨_, rfl, hv1, below_on hb1⟩

set_option maxHeartbeats 4000000 in
theorem rof_r {z : Int} {w : World} (h1 : -9223372036854775808 ≤ z) (h2 : z ≤ 9223372036854775807) :
    Calls Try.prog 50 #[.int .i64 z] w fun e w' => ∃ v, e = .returned v ∧ RFr w' v (Q.of z) w.heap.size ∧ Below w.heap.size w w' := by
  unfold Q.of
  obtain ⟨n, hn⟩ : ∃ n, z.natAbs = n := ⟨_, rfl⟩
  have HN := Lib.hid hn
  have hnl : (bitsN n).length ≤ 40000 := Nat.le_trans (bits_len_le n 64 (by omega)) (by omega)
  have SM : Hid (∀ w, Calls Try.prog 66 #[.int .i64 1] w fun e w' => ∃ v', e = .returned v' ∧ BitAt w' v' (bitsN 1) ∧ Fresh w.heap.size v' ∧ Below w.heap.size w w') := Lib.hid (fun w => small_f 1 w (by omega))
  have NM : Hid (∀ neg va vb w, BitAt w va (bitsN n) → BitAt w vb (bitsN 1) → Calls Try.prog 61 #[.bool neg, va, vb] w fun e w' => ∃ v, e = .returned v ∧ RFr w' v (Q.mk' neg n 1) w.heap.size ∧ Below w.heap.size w w') := Lib.hid (fun neg va vb w h h' => rnorm_r h h' hnl (by decide))
  have hBN := Blk.new w #[.bool false, .slice none 0 0, .slice none 0 0] 77
  have HB := Lib.hid hBN
  rw [hn]
  clear hn hnl hBN
  by_cases h : z < 0
  · rw [show decide (z < 0) = true by simpa using h]
    go_enter Try.func50, Try.ntmps50
    go_wp2_with (first
      | (go_at_call 36; ((refine (word_n (n := n) (by have := HN.out; omega) (by have := HN.out; omega)).mono ?_); rintro e w1 ⟨v1, rfl, hv1, hb1⟩))
      | (go_at_call 66; ((with_reducible refine (SM.out _).mono ?_); rintro e w2 ⟨v2, rfl, hv2, hf2, hb2⟩; have hb2' := bel2' hb1 hb2; have h12 := hv1.keep hb2))
      | (go_at_call 61; ((with_reducible refine (NM.out _ _ _ _ h12 hv2).mono ?_); rintro e w3 ⟨v3, rfl, hv3, hb3⟩; obtain ⟨a1, b1, e1, a2, b2, e2, rfl, g1, g2, g3, g4⟩ := hv3.shape; have hb3' := bel2' hb2' hb3; have B3 := HB.out.keep hb3'; obtain ⟨c0, c1, c2⟩ := B3.three; obtain ⟨f0, f1, f2⟩ := B3.free3)))
    refine bodyPost_ret (v := .agg #[.bool (Q.mk' true n 1).neg, .slice a1 b1 e1, .slice a2 b2 e2]) (by simp [results, Try.results50, go_sem, c0, c1, c2]) rfl ?_
    have z1 : w.heap.size + 1 ≤ w2.heap.size := by have := hb2'.size; simp at this; omega
    exact ⟨_, rfl, retR (below_on hb3') (Nat.le_refl _) ⟨_, _, rfl, g1, g2, g3.mono z1, g4.mono z1⟩⟩
  · rw [show decide (z < 0) = false by simpa using h]
    go_enter Try.func50, Try.ntmps50
    go_wp2_with (first
      | (go_at_call 36; ((refine (word_n (n := n) (by have := HN.out; omega) (by have := HN.out; omega)).mono ?_); rintro e w1 ⟨v1, rfl, hv1, hb1⟩))
      | (go_at_call 66; ((with_reducible refine (SM.out _).mono ?_); rintro e w2 ⟨v2, rfl, hv2, hf2, hb2⟩; have hb2' := bel2' hb1 hb2; have h12 := hv1.keep hb2))
      | (go_at_call 61; ((with_reducible refine (NM.out _ _ _ _ h12 hv2).mono ?_); rintro e w3 ⟨v3, rfl, hv3, hb3⟩; obtain ⟨a1, b1, e1, a2, b2, e2, rfl, g1, g2, g3, g4⟩ := hv3.shape; have hb3' := bel2' hb2' hb3; have B3 := HB.out.keep hb3'; obtain ⟨c0, c1, c2⟩ := B3.three; obtain ⟨f0, f1, f2⟩ := B3.free3)))
    refine bodyPost_ret (v := .agg #[.bool (Q.mk' false n 1).neg, .slice a1 b1 e1, .slice a2 b2 e2]) (by simp [results, Try.results50, go_sem, c0, c1, c2]) rfl ?_
    have z1 : w.heap.size + 1 ≤ w2.heap.size := by have := hb2'.size; simp at this; omega
    exact ⟨_, rfl, retR (below_on hb3') (Nat.le_refl _) ⟨_, _, rfl, g1, g2, g3.mono z1, g4.mono z1⟩⟩

set_option maxHeartbeats 4000000 in
theorem ropp_r {v : Value} {q : Q} {w : World} (h : RAt w v q) (hs : q.Sz 40000) :
    Calls Try.prog 65 #[v] w fun e w' => ∃ v', e = .returned v' ∧ RFr w' v' (Q.mk' (!q.neg) q.n q.d) w.heap.size ∧ Below w.heap.size w w' := by
  obtain ⟨p1, l1, k1, p2, l2, k2, rfl, hn, hd⟩ := h.shape
  obtain ⟨neg, n, d⟩ := q
  have NM : Hid (∀ o1 o2, Calls Try.prog 61 #[.bool (!neg), .slice p1 l1 k1, .slice p2 l2 k2] ((w.alloc o1).alloc o2) fun e w' => ∃ v, e = .returned v ∧ RFr w' v (Q.mk' (!neg) n d) ((w.alloc o1).alloc o2).heap.size ∧ Below ((w.alloc o1).alloc o2).heap.size ((w.alloc o1).alloc o2) w') := Lib.hid (fun o1 o2 => rnorm_r (BitAt.on hn (((Below.refl _ _).alloc (Nat.le_refl _) _))) (BitAt.on hd (((Below.refl _ _).alloc (Nat.le_refl _) _))) hs.1 hs.2)
  clear hn hd h hs
  go_enter Try.func65, Try.ntmps65
  go_wp2_with (go_at_call 61; ((with_reducible refine (NM.out _ _).mono ?_); rintro e w3 ⟨v3, rfl, hv3, hb3⟩; obtain ⟨a1, b1, e1, a2, b2, e2, rfl, g1, g2, g3, g4⟩ := hv3.shape; have B3 := (Blk.new _ _ _).keep hb3; obtain ⟨c0, c1, c2⟩ := B3.three; obtain ⟨f0, f1, f2⟩ := B3.free3; simp at c0 c1 c2 f0 f1 f2))
  refine bodyPost_ret (v := .agg #[.bool (Q.mk' (!neg) n d).neg, .slice a1 b1 e1, .slice a2 b2 e2]) (by simp [results, Try.results65, go_sem, c0, c1, c2]) rfl ?_
  refine ⟨_, rfl, retR (B := w.heap.size) ?_ (by omega) ⟨_, _, rfl, g1, g2, g3.mono (by simp), g4.mono (by simp)⟩⟩
  exact (((Below.refl _ _).alloc (Nat.le_refl _) _).alloc (by simp) _).trans (hb3.mono (by simp; omega))

/-- Are two Ratios equal field by field? -/
def eqR (na : Bool) (a b : List Nat) (nb : Bool) (c d : List Nat) : Bool := (na == nb) && eqN a c && eqN b d

set_option maxHeartbeats 4000000 in
theorem req_r {va vb : Value} {na nb : Bool} {a b c d : List Nat} {w : World} (ha : RatL w va na a b) (hb : RatL w vb nb c d) (h1 : a.length ≤ 1000000) (h2 : b.length ≤ 1000000) (h3 : c.length ≤ 1000000) (h4 : d.length ≤ 1000000) :
    Calls Try.prog 47 #[va, vb] w fun e w' => e = .returned (.bool (eqR na a b nb c d)) ∧ Below w.heap.size w w' := by
  obtain ⟨va1, va2, rfl, g1, g2⟩ := ha
  obtain ⟨vb1, vb2, rfl, g3, g4⟩ := hb
  obtain ⟨p1, k1, rfl⟩ := g1.shape
  obtain ⟨p2, k2, rfl⟩ := g2.shape
  obtain ⟨p3, k3, rfl⟩ := g3.shape
  obtain ⟨p4, k4, rfl⟩ := g4.shape
  unfold eqR
  have E1 : Hid (∀ w', Below w.heap.size w w' → Calls Try.prog 62 #[.slice p1 a.length k1, .slice p3 c.length k3] w' fun e w'' => e = .returned (.bool (eqN a c)) ∧ Below w'.heap.size w' w'') := Lib.hid (fun w' h => req_any _ _ _ _ w' (g1.keep h) (g3.keep h) h1 h3)
  have E2 : Hid (∀ w', Below w.heap.size w w' → Calls Try.prog 62 #[.slice p2 b.length k2, .slice p4 d.length k4] w' fun e w'' => e = .returned (.bool (eqN b d)) ∧ Below w'.heap.size w' w'') := Lib.hid (fun w' h => req_any _ _ _ _ w' (g2.keep h) (g4.keep h) h2 h4)
  obtain ⟨t1, ht1⟩ : ∃ t1, eqN a c = t1 := ⟨_, rfl⟩
  obtain ⟨t2, ht2⟩ : ∃ t2, eqN b d = t2 := ⟨_, rfl⟩
  rw [ht1] at E1 ⊢
  rw [ht2] at E2 ⊢
  clear g1 g2 g3 g4 ht1 ht2 h1 h2 h3 h4
  cases na <;> cases nb <;> cases t1
  all_goals
    go_enter Try.func47, Try.ntmps47
    go_wp2_with (first
      | (go_at_call 62; ((with_reducible refine (E1.out _ (((Below.refl _ _).alloc (Nat.le_refl _) _).alloc (by simp) _)).mono ?_); rintro e w2 ⟨rfl, hb2⟩; have B1 := (Blk.new _ _ _).keep hb2; have B0 := ((Blk.new w _ _).alloc _).keep hb2; obtain ⟨_, _, q2⟩ := B0.three; obtain ⟨_, _, r2⟩ := B1.three; simp at r2; have hb2' : Below w.heap.size w w2 := (((Below.refl _ _).alloc (Nat.le_refl _) _).alloc (by simp) _).trans (hb2.mono (by simp; omega))))
      | (go_at_call 62; ((with_reducible refine (E2.out _ hb2').mono ?_); rintro e w3 ⟨rfl, hb3⟩; have hb3' := bel2' hb2' hb3)))
    go_ret
    first
      | exact ⟨rfl, hb3'⟩
      | exact ⟨rfl, hb2'⟩
      | exact ⟨rfl, ((Below.refl _ _).alloc (Nat.le_refl _) _).alloc (by simp) _⟩

end Go.Proofs.Ytlhkjkhbgebgiaa
