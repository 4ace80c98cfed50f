import Derived.Test.YtaommeapngbgeaaDoorR8
import Derived.Test.YtaommeapngbgeaaDoorR7
namespace Go.Proofs.YtaommeapngbgeaaDoor
open Go.RowKit Go.Proofs.Kit Go.Proofs.Nums

/-- Are two Ratios equal field by field? -/
def eqR (na : Bool) (a b : List Nat) (nb : Bool) (c d : List Nat) : Bool := (na == nb) && eqN a c && eqN b d

set_option maxHeartbeats 4000000 in
theorem req_r {va vb : Value} {na nb : Bool} {a b c d : List Nat} {w : World} (ha : RatL w va na a b) (hb : RatL w vb nb c d) (h1 : a.length ≤ 1000000) (h2 : b.length ≤ 1000000) (h3 : c.length ≤ 1000000) (h4 : d.length ≤ 1000000) :
    Calls Tryd.prog 21 #[va, vb] w fun e w' => e = .returned (.bool (eqR na a b nb c d)) ∧ Below w.heap.size w w' := by
  obtain ⟨va1, va2, rfl, g1, g2⟩ := ha
  obtain ⟨vb1, vb2, rfl, g3, g4⟩ := hb
  obtain ⟨p1, k1, rfl⟩ := g1.shape
  obtain ⟨p2, k2, rfl⟩ := g2.shape
  obtain ⟨p3, k3, rfl⟩ := g3.shape
  obtain ⟨p4, k4, rfl⟩ := g4.shape
  unfold eqR
  have E1 : Hid (∀ w', Below w.heap.size w w' → Calls Tryd.prog 36 #[.slice p1 a.length k1, .slice p3 c.length k3] w' fun e w'' => e = .returned (.bool (eqN a c)) ∧ Below w'.heap.size w' w'') := Lib.hid (fun w' h => req_any _ _ _ _ w' (g1.keep h) (g3.keep h) h1 h3)
  have E2 : Hid (∀ w', Below w.heap.size w w' → Calls Tryd.prog 36 #[.slice p2 b.length k2, .slice p4 d.length k4] w' fun e w'' => e = .returned (.bool (eqN b d)) ∧ Below w'.heap.size w' w'') := Lib.hid (fun w' h => req_any _ _ _ _ w' (g2.keep h) (g4.keep h) h2 h4)
  obtain ⟨t1, ht1⟩ : ∃ t1, eqN a c = t1 := ⟨_, rfl⟩
  obtain ⟨t2, ht2⟩ : ∃ t2, eqN b d = t2 := ⟨_, rfl⟩
  rw [ht1] at E1 ⊢
  rw [ht2] at E2 ⊢
  clear g1 g2 g3 g4 ht1 ht2 h1 h2 h3 h4
  cases na <;> cases nb <;> cases t1
  all_goals
    go_enter Tryd.func21, Tryd.ntmps21
    go_wp2_with (first
      | (go_at_call 36; ((with_reducible refine (E1.out _ (((Below.refl _ _).alloc (Nat.le_refl _) _).alloc (by simp) _)).mono ?_); rintro e w2 ⟨rfl, hb2⟩; have B1 := (Blk.new _ _ _).keep hb2; have B0 := ((Blk.new w _ _).alloc _).keep hb2; obtain ⟨_, _, q2⟩ := B0.three; obtain ⟨_, _, r2⟩ := B1.three; simp at r2; have hb2' : Below w.heap.size w w2 := (((Below.refl _ _).alloc (Nat.le_refl _) _).alloc (by simp) _).trans (hb2.mono (by simp; omega))))
      | (go_at_call 36; ((with_reducible refine (E2.out _ hb2').mono ?_); rintro e w3 ⟨rfl, hb3⟩; have hb3' := bel2' hb2' hb3)))
    go_ret
    first
      | exact ⟨rfl, hb3'⟩
      | exact ⟨rfl, hb2'⟩
      | exact ⟨rfl, ((Below.refl _ _).alloc (Nat.le_refl _) _).alloc (by simp) _⟩

end Go.Proofs.YtaommeapngbgeaaDoor
