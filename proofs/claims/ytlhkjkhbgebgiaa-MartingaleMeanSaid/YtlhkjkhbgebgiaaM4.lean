import Derived.Test.YtlhkjkhbgebgiaaM2
import Derived.Deep.RegionHeld3
namespace Go.Proofs.Ytlhkjkhbgebgiaa
open Go.RowKit Go.Proofs.Kit Go.Proofs.Nums

theorem Below.six {w w' : World} {H K : Nat} {a0 a1 a2 b0 b1 b2 : Value} (hb : Below w.heap.size w w')
    (h : w.cell? ⟨H, 0, none⟩ = some a0 ∧ w.cell? ⟨H, 1, none⟩ = some a1 ∧ w.cell? ⟨H, 2, none⟩ = some a2 ∧ w.cell? ⟨K, 0, none⟩ = some b0 ∧ w.cell? ⟨K, 1, none⟩ = some b1 ∧ w.cell? ⟨K, 2, none⟩ = some b2) :
    w'.cell? ⟨H, 0, none⟩ = some a0 ∧ w'.cell? ⟨H, 1, none⟩ = some a1 ∧ w'.cell? ⟨H, 2, none⟩ = some a2 ∧ w'.cell? ⟨K, 0, none⟩ = some b0 ∧ w'.cell? ⟨K, 1, none⟩ = some b1 ∧ w'.cell? ⟨K, 2, none⟩ = some b2 :=
  ⟨cell_keep hb h.1, cell_keep hb h.2.1, cell_keep hb h.2.2.1, cell_keep hb h.2.2.2.1, cell_keep hb h.2.2.2.2.1, cell_keep hb h.2.2.2.2.2⟩

/-- Three cells written in block b. -/
def set3 (w : World) (b : Nat) (x y z : Value) : World := ((w.setCell ⟨b, 0, none⟩ x).setCell ⟨b, 1, none⟩ y).setCell ⟨b, 2, none⟩ z

theorem cell_other {w : World} {b o o' : Nat} {v : Value} (h : o ≠ o') : (w.setCell ⟨b, o, none⟩ v).cell? ⟨b, o', none⟩ = w.cell? ⟨b, o', none⟩ :=
  World.cell?_setCell_other w ⟨b, o, none⟩ ⟨b, o', none⟩ v (fun e => h (by injection e))
theorem cell_same {w : World} {b o : Nat} {u v : Value} (h : w.cell? ⟨b, o, none⟩ = some u) : (w.setCell ⟨b, o, none⟩ v).cell? ⟨b, o, none⟩ = some v :=
  World.cell?_setCell_same w ⟨b, o, none⟩ v h

theorem set3_in {w : World} {b : Nat} {x y z x0 y0 z0 : Value} (h0 : w.cell? ⟨b, 0, none⟩ = some x0) (h1 : w.cell? ⟨b, 1, none⟩ = some y0) (h2 : w.cell? ⟨b, 2, none⟩ = some z0) :
    (set3 w b x y z).cell? ⟨b, 0, none⟩ = some x ∧ (set3 w b x y z).cell? ⟨b, 1, none⟩ = some y ∧ (set3 w b x y z).cell? ⟨b, 2, none⟩ = some z := by
  unfold set3
  have k1 : (w.setCell ⟨b, 0, none⟩ x).cell? ⟨b, 1, none⟩ = some y0 := by rw [cell_other (by omega), h1]
  have k2 : ((w.setCell ⟨b, 0, none⟩ x).setCell ⟨b, 1, none⟩ y).cell? ⟨b, 2, none⟩ = some z0 := by rw [cell_other (by omega), cell_other (by omega), h2]
  refine ⟨?_, ?_, cell_same k2⟩
  · rw [cell_other (by omega), cell_other (by omega)]; exact cell_same h0
  · rw [cell_other (by omega)]; exact cell_same k1
theorem set3_out {w : World} {b b' o : Nat} {x y z : Value} (h : b' ≠ b) : (set3 w b x y z).cell? ⟨b', o, none⟩ = w.cell? ⟨b', o, none⟩ :=
  World.cell?_of_block (a := ⟨b', o, none⟩) (heap_set3 w b x y z b' h)
theorem set3_free {w : World} {b b' o : Nat} {x y z : Value} (h : b' ≠ b) : (set3 w b x y z).frozen? ⟨b', o, none⟩ = w.frozen? ⟨b', o, none⟩ :=
  World.frozen?_of_block (a := ⟨b', o, none⟩) (heap_set3 w b x y z b' h)

/-- A block of three cells, none of them a limb. -/
theorem noLimb_three {w : World} {b : Nat} {cs : Array Value} {T : TypeId} {fz : Nat × Nat} (h : w.heap[b]? = some (.cells cs T fz)) (hs : ∀ (o : Nat) (x : Int), cs[o]? ≠ some (Value.int .u32 x)) : NoLimb w b := fun o x => by
  rw [cell_of_row w b o cs T fz h]; exact hs o x

/-- Two Ratios in two blocks of the call's own, a third block for the result. -/
structure Pair (w0 : World) (H : Nat) (a b : Q) (L : Nat) (w : World) (p1 : Option Addr) (l1 k1 : Nat) (p2 : Option Addr) (l2 k2 : Nat) (p3 : Option Addr) (l3 k3 : Nat) (p4 : Option Addr) (l4 k4 : Nat) : Prop where
  six : w.cell? ⟨H, 0, none⟩ = some (.bool a.neg) ∧ w.cell? ⟨H, 1, none⟩ = some (.slice p1 l1 k1) ∧ w.cell? ⟨H, 2, none⟩ = some (.slice p2 l2 k2) ∧ w.cell? ⟨H + 1, 0, none⟩ = some (.bool b.neg) ∧ w.cell? ⟨H + 1, 1, none⟩ = some (.slice p3 l3 k3) ∧ w.cell? ⟨H + 1, 2, none⟩ = some (.slice p4 l4 k4)
  n1 : Nrm w (.slice p1 l1 k1) a.n L
  n2 : Nrm w (.slice p2 l2 k2) a.d L
  n3 : Nrm w (.slice p3 l3 k3) b.n L
  n4 : Nrm w (.slice p4 l4 k4) b.d L
  below : Below w0.heap.size w0 w
  le : w0.heap.size ≤ H
  lt : H + 2 < w.heap.size
  res : ∀ o, w.cell? ⟨H + 1 + 1, o, none⟩ = (#[.bool false, .slice none 0 0, .slice none 0 0] : Array Value)[o]?
  free : ∀ o, w.frozen? ⟨H + 1 + 1, o, none⟩ = false

theorem Pair.keep {w0 : World} {H : Nat} {a b : Q} {L : Nat} {w w' : World} {p1 : Option Addr} {l1 k1 : Nat} {p2 : Option Addr} {l2 k2 : Nat} {p3 : Option Addr} {l3 k3 : Nat} {p4 : Option Addr} {l4 k4 : Nat}
    (h : Pair w0 H a b L w p1 l1 k1 p2 l2 k2 p3 l3 k3 p4 l4 k4) (hb : Below w.heap.size w w') : Pair w0 H a b L w' p1 l1 k1 p2 l2 k2 p3 l3 k3 p4 l4 k4 :=
  ⟨Below.six hb h.six, h.n1.keep hb, h.n2.keep hb, h.n3.keep hb, h.n4.keep hb, bel2' h.below hb, h.le, Nat.lt_of_lt_of_le h.lt hb.size,
   fun o => by rw [hb.cell (p := ⟨H + 1 + 1, o, none⟩) h.lt, h.res], fun o => by rw [hb.frozen (p := ⟨H + 1 + 1, o, none⟩) h.lt, h.free]⟩

/-- The result is stored. -/
theorem Pair.ret {w0 : World} {H : Nat} {a b : Q} {L M : Nat} {w : World} {p1 : Option Addr} {l1 k1 : Nat} {p2 : Option Addr} {l2 k2 : Nat} {p3 : Option Addr} {l3 k3 : Nat} {p4 : Option Addr} {l4 k4 : Nat}
    (h : Pair w0 H a b L w p1 l1 k1 p2 l2 k2 p3 l3 k3 p4 l4 k4) {q : Q} {vn vd : Value} (hn : Nrm w vn q.n M) (hd : Nrm w vd q.d M) (B : Nat) (hB : B = H + 1 + 1) :
    RatN (((w.setCell ⟨B, 0, none⟩ (.bool q.neg)).setCell ⟨B, 1, none⟩ vn).setCell ⟨B, 2, none⟩ vd) (.agg #[.bool q.neg, vn, vd]) q M ∧
    Below w0.heap.size w0 (((w.setCell ⟨B, 0, none⟩ (.bool q.neg)).setCell ⟨B, 1, none⟩ vn).setCell ⟨B, 2, none⟩ vd) := by
  subst hB
  have HN : NoLimb w (H + 1 + 1) := fun o x => by rw [h.res]; exact noLimb3 (by simp) (by simp) (by simp) o x
  refine ⟨⟨_, _, rfl, hn.off (heap_set3 _ _ _ _ _) HN, hd.off (heap_set3 _ _ _ _ _) HN⟩, below_set3 h.below (by have := h.le; omega) _ _ _⟩

/-- Both are laid in normal form over themselves. -/
theorem Pair.normed {w0 W w : World} {H : Nat} {a b q r : Q} {L : Nat} {p1 : Option Addr} {l1 k1 : Nat} {p2 : Option Addr} {l2 k2 : Nat} {p3 : Option Addr} {l3 k3 : Nat} {p4 : Option Addr} {l4 k4 : Nat}
    {a1 : Option Addr} {b1 e1 : Nat} {a2 : Option Addr} {b2 e2 : Nat} {a3 : Option Addr} {b3 e3 : Nat} {a4 : Option Addr} {b4 e4 : Nat} {T : TypeId}
    (hW : W = ((w0.alloc (.cells #[.bool a.neg, .slice p1 l1 k1, .slice p2 l2 k2] T)).alloc (.cells #[.bool b.neg, .slice p3 l3 k3, .slice p4 l4 k4] T)).alloc (.cells #[.bool false, .slice none 0 0, .slice none 0 0] T))
    (hH : H = w0.heap.size) (hb : Below W.heap.size W.drew w)
    (h1 : Nrm w (.slice a1 b1 e1) q.n L) (h2 : Nrm w (.slice a2 b2 e2) q.d L) (h3 : Nrm w (.slice a3 b3 e3) r.n L) (h4 : Nrm w (.slice a4 b4 e4) r.d L) :
    Pair w0 H q r L (set3 (set3 w H (.bool q.neg) (.slice a1 b1 e1) (.slice a2 b2 e2)) (H + 1) (.bool r.neg) (.slice a3 b3 e3) (.slice a4 b4 e4)) a1 b1 e1 a2 b2 e2 a3 b3 e3 a4 b4 e4 := by
  subst hH
  have hsz : W.heap.size = w0.heap.size + 3 := by subst hW; simp
  have hbw := hb.size
  have hl : w0.heap.size + 3 ≤ w.heap.size := by rw [← hsz]; exact hb.size
  have blk : ∀ k, k < W.heap.size → w.heap[k]? = W.heap[k]? := fun k hk => hb.block k hk
  have g0 : W.heap[w0.heap.size]? = some (.cells #[.bool a.neg, .slice p1 l1 k1, .slice p2 l2 k2] T (0, 0)) := by
    subst hW
    rw [Below.heap_alloc _ _ _ (by simp; omega), Below.heap_alloc _ _ _ (by simp), heap_alloc_new]
  have g1 : W.heap[w0.heap.size + 1]? = some (.cells #[.bool b.neg, .slice p3 l3 k3, .slice p4 l4 k4] T (0, 0)) := by
    subst hW
    rw [Below.heap_alloc _ _ _ (by simp)]
    have := heap_alloc_new (w0.alloc (.cells #[.bool a.neg, .slice p1 l1 k1, .slice p2 l2 k2] T)) (.cells #[.bool b.neg, .slice p3 l3 k3, .slice p4 l4 k4] T)
    simpa only [World.size_alloc] using this
  have g2 : W.heap[w0.heap.size + 1 + 1]? = some (.cells #[.bool false, .slice none 0 0, .slice none 0 0] T (0, 0)) := by
    subst hW
    have := heap_alloc_new ((w0.alloc (.cells #[.bool a.neg, .slice p1 l1 k1, .slice p2 l2 k2] T)).alloc (.cells #[.bool b.neg, .slice p3 l3 k3, .slice p4 l4 k4] T)) (.cells #[.bool false, .slice none 0 0, .slice none 0 0] T)
    simpa only [World.size_alloc] using this
  rw [← blk _ (by omega)] at g0 g1 g2
  have c0 := fun o => cell_of_row w _ o _ _ _ g0
  have c1 := fun o => cell_of_row w _ o _ _ _ g1
  have c2 := fun o => cell_of_row w _ o _ _ _ g2
  have N0 : NoLimb w w0.heap.size := noLimb_three g0 (noLimb3 (by simp) (by simp) (by simp))
  have N1 : NoLimb (set3 w w0.heap.size (.bool q.neg) (.slice a1 b1 e1) (.slice a2 b2 e2)) (w0.heap.size + 1) := fun o x => by
    rw [set3_out (by omega)]; exact noLimb_three g1 (noLimb3 (by simp) (by simp) (by simp)) o x
  have hb0 : Below w0.heap.size w0 w := by
    have : Below w0.heap.size w0 W.drew := by subst hW; exact ((((Below.refl _ _).alloc (Nat.le_refl _) _).alloc (by simp) _).alloc (by simp; omega) _).drew
    exact this.trans (hb.mono (by omega))
  have s0 := set3_in (x := .bool q.neg) (y := .slice a1 b1 e1) (z := .slice a2 b2 e2) (c0 0) (c0 1) (c0 2)
  have d1 := fun o => (set3_out (w := w) (b := w0.heap.size) (b' := w0.heap.size + 1) (o := o) (x := .bool q.neg) (y := .slice a1 b1 e1) (z := .slice a2 b2 e2) (by omega)).trans (c1 o)
  have s1 := set3_in (x := .bool r.neg) (y := .slice a3 b3 e3) (z := .slice a4 b4 e4) (d1 0) (d1 1) (d1 2)
  have off : ∀ {v n}, Nrm w v n L → Nrm (set3 (set3 w w0.heap.size (.bool q.neg) (.slice a1 b1 e1) (.slice a2 b2 e2)) (w0.heap.size + 1) (.bool r.neg) (.slice a3 b3 e3) (.slice a4 b4 e4)) v n L := fun h =>
    (h.off (heap_set3 _ _ _ _ _) N0).off (heap_set3 _ _ _ _ _) N1
  refine ⟨⟨?_, ?_, ?_, s1.1, s1.2.1, s1.2.2⟩, off h1, off h2, off h3, off h4, below_set3 (below_set3 hb0 (Nat.le_refl _) _ _ _) (by omega) _ _ _, Nat.le_refl _, ?_, ?_, ?_⟩
  · rw [set3_out (by omega)]; exact s0.1
  · rw [set3_out (by omega)]; exact s0.2.1
  · rw [set3_out (by omega)]; exact s0.2.2
  · unfold set3; simp; omega
  · intro o; rw [set3_out (by omega), set3_out (by omega), c2]
  · intro o
    rw [set3_free (by omega), set3_free (by omega)]
    unfold World.frozen?
    rw [g2]
    simp

end Go.Proofs.Ytlhkjkhbgebgiaa

namespace Go.Proofs.Ytlhkjkhbgebgiaa
open Go.RowKit Go.Proofs.Kit Go.Proofs.Nums

theorem make_b {neg : Bool} {vn vd : Value} {n d L : Nat} {w : World} (hn : Num w vn n (2 * L + 1)) (hd : Num w vd d (L + L)) (hL : L ≤ 100000) (hL2 : 2 ≤ L) :
    Calls Try.prog 42 #[.bool neg, vn, vd] w fun e w' => ∃ v, e = .returned v ∧ RatN w' v (Q.mk' neg n d) (2 * L + 1) ∧ Below w.heap.size w w' :=
  make_num hn (hd.wider (by omega)) (by omega) (by omega)

theorem sum_b {an bn : Bool} {va vb : Value} {a b L : Nat} {w : World} (ha : Num w va a (L + L)) (hb : Num w vb b (L + L)) (hL : L ≤ 100000) :
    Calls Try.prog 67 #[.bool an, va, .bool bn, vb] w fun e w' => ∃ v' s, s = sumS an a bn b ∧ e = .returned (.tuple #[.bool s.1, v']) ∧ Nrm w' v' s.2 (2 * L + 1) ∧ Below w.heap.size w w' :=
  (sum_num ha hb (by omega)).mono fun _ _ ⟨v', h1, h2, h3⟩ => ⟨v', _, rfl, h1, h2.wider (by omega), h3⟩

set_option maxRecDepth 100000 in
set_option maxHeartbeats 8000000 in
theorem add_r {va vb : Value} {a b : Q} {L : Nat} {w : World} (ha : RatAt w va a L) (hb : RatAt w vb b L) (hL : L ≤ 100000) (hL2 : 2 ≤ L) :
    Calls Try.prog 55 #[va, vb] w fun e w' => ∃ v', e = .returned v' ∧ RatN w' v' (Q.add a b) (2 * L + 1) ∧ Below w.heap.size w w' := by
  obtain ⟨p1, l1, k1, p2, l2, k2, rfl, hn, hd⟩ := ha.shape
  obtain ⟨p3, l3, k3, p4, l4, k4, rfl, hm, hc⟩ := hb.shape
  obtain ⟨qa, hqa⟩ : ∃ qa, a.norm = qa := ⟨_, rfl⟩
  obtain ⟨qb, hqb⟩ : ∃ qb, b.norm = qb := ⟨_, rfl⟩
  have NA : Hid (∀ w', Below w.heap.size w w' → Calls Try.prog 39 #[.agg #[.bool a.neg, .slice p1 l1 k1, .slice p2 l2 k2]] w' fun e w'' => ∃ v', e = .returned v' ∧ RatN w'' v' qa L ∧ Below w'.heap.size w' w'') := Lib.hid (fun w' h => by rw [← hqa]; exact norm_r (ha.keep h) (by omega) hL2)
  have NB : Hid (∀ w', Below w.heap.size w w' → Calls Try.prog 39 #[.agg #[.bool b.neg, .slice p3 l3 k3, .slice p4 l4 k4]] w' fun e w'' => ∃ v', e = .returned v' ∧ RatN w'' v' qb L ∧ Below w'.heap.size w' w'') := Lib.hid (fun w' h => by rw [← hqb]; exact norm_r (hb.keep h) (by omega) hL2)
  have HADD : Hid (Q.add a b = Q.mk' (sumS qa.neg (qa.n * qb.d) qb.neg (qb.n * qa.d)).1 (sumS qa.neg (qa.n * qb.d) qb.neg (qb.n * qa.d)).2 (qa.d * qb.d)) := Lib.hid (by unfold Q.add Q.addR; rw [hqa, hqb])
  clear hn hd hm hc ha hb hqa hqb
  go_enter Try.func55, Try.ntmps55
  go_wp2_with fail
  generalize hW : ((w.alloc (.cells #[.bool a.neg, .slice p1 l1 k1, .slice p2 l2 k2] 30)).alloc (.cells #[.bool b.neg, .slice p3 l3 k3, .slice p4 l4 k4] 30)).alloc (.cells #[.bool false, .slice none 0 0, .slice none 0 0] 30) = W
  have hBW : Below w.heap.size w W := by rw [← hW]; exact (((Below.refl _ _).alloc (Nat.le_refl _) _).alloc (by simp) _).alloc (by simp; omega) _
  have s0 : W.drew.cell? ⟨w.heap.size, 0, none⟩ = some (.bool a.neg) ∧ W.drew.cell? ⟨w.heap.size, 1, none⟩ = some (.slice p1 l1 k1) ∧ W.drew.cell? ⟨w.heap.size, 2, none⟩ = some (.slice p2 l2 k2) ∧ W.drew.cell? ⟨w.heap.size + 1, 0, none⟩ = some (.bool b.neg) ∧ W.drew.cell? ⟨w.heap.size + 1, 1, none⟩ = some (.slice p3 l3 k3) ∧ W.drew.cell? ⟨w.heap.size + 1, 2, none⟩ = some (.slice p4 l4 k4) := by
    have e1 := fun off => cell_alloc_new w #[.bool a.neg, .slice p1 l1 k1, .slice p2 l2 k2] 30 (0, 0) off
    have e2 := fun off => cell_alloc_new (w.alloc (.cells #[.bool a.neg, .slice p1 l1 k1, .slice p2 l2 k2] 30)) #[.bool b.neg, .slice p3 l3 k3, .slice p4 l4 k4] 30 (0, 0) off
    subst hW
    simp only [World.size_alloc] at e2
    exact ⟨cell_alloc_old (cell_alloc_old (e1 0)), cell_alloc_old (cell_alloc_old (e1 1)), cell_alloc_old (cell_alloc_old (e1 2)), cell_alloc_old (e2 0), cell_alloc_old (e2 1), cell_alloc_old (e2 2)⟩
  have hsz : W.heap.size = w.heap.size + 3 := by subst hW; simp
  have fz : ∀ b o, w.heap.size ≤ b → b < W.heap.size → W.drew.frozen? ⟨b, o, none⟩ = false := by
    intro b o h1 h2
    have g0 : ∃ cs, W.heap[b]? = some (.cells cs 30 (0, 0)) := by
      have h3 : b = w.heap.size ∨ b = w.heap.size + 1 ∨ b = w.heap.size + 2 := by omega
      subst hW
      rcases h3 with rfl | rfl | rfl
      · exact ⟨_, by rw [Below.heap_alloc _ _ _ (by simp; omega), Below.heap_alloc _ _ _ (by simp), heap_alloc_new]⟩
      · refine ⟨#[.bool b.neg, .slice p3 l3 k3, .slice p4 l4 k4], ?_⟩
        rw [Below.heap_alloc _ _ _ (by simp)]
        have := heap_alloc_new (w.alloc (.cells #[.bool a.neg, .slice p1 l1 k1, .slice p2 l2 k2] 30)) (.cells #[.bool b.neg, .slice p3 l3 k3, .slice p4 l4 k4] 30)
        simpa only [World.size_alloc] using this
      · refine ⟨#[.bool false, .slice none 0 0, .slice none 0 0], ?_⟩
        have := heap_alloc_new ((w.alloc (.cells #[.bool a.neg, .slice p1 l1 k1, .slice p2 l2 k2] 30)).alloc (.cells #[.bool b.neg, .slice p3 l3 k3, .slice p4 l4 k4] 30)) (.cells #[.bool false, .slice none 0 0, .slice none 0 0] 30)
        simpa only [World.size_alloc] using this
    obtain ⟨cs, g0⟩ := g0
    have g1 : W.drew.heap[b]? = some (.cells cs 30 (0, 0)) := g0
    unfold World.frozen?
    rw [g1]
    simp
  have hBd : Below w.heap.size w W.drew := hBW.drew
  have S0 := Lib.hid s0
  have FZ := Lib.hid fz
  have HW := Lib.hid hW.symm
  obtain ⟨d0, d1, d2, d3, d4, d5⟩ := s0
  have hlw1 : w.heap.size < W.heap.size := by omega
  have hlw2 : w.heap.size + 1 < W.heap.size := by omega
  clear hW fz hsz
  go_region_with (first
      | (go_at_call 39; ((with_reducible refine (NA.out _ hBd).mono ?_); rintro e w4 ⟨v4, rfl, hv4, hb4⟩; obtain ⟨a1, b1, e1, a2, b2, e2, rfl, hn4, hd4⟩ := hv4.shape; have s4 := Below.six hb4 S0.out; have S4 := Lib.hid s4; obtain ⟨g0, g1, g2, g3, g4, g5⟩ := s4; have hB4 := bel2' hBd hb4))
      | (go_at_call 39; ((with_reducible refine (NB.out _ hB4).mono ?_); rintro e w5 ⟨v5, rfl, hv5, hb5⟩; obtain ⟨a3, b3, e3, a4, b4, e4, rfl, hn5, hd5⟩ := hv5.shape; have s5 := Below.six hb5 S4.out; have S5 := Lib.hid s5; obtain ⟨k0, k1', k2', k3', k4', k5⟩ := s5; have hB5 := bel2' hB4 hb5; have f5 := fun b o (h1 : b < W.heap.size) (h2 : w.heap.size ≤ b) => free_below hb5 (free_below hb4 (FZ.out b o h2 h1) h1) (Nat.lt_of_lt_of_le h1 hb4.size); have f50 := f5 w.heap.size 0 hlw1 (Nat.le_refl _); have f51 := f5 w.heap.size 1 hlw1 (Nat.le_refl _); have f52 := f5 w.heap.size 2 hlw1 (Nat.le_refl _); have f53 := f5 (w.heap.size + 1) 0 hlw2 (Nat.le_succ _); have f54 := f5 (w.heap.size + 1) 1 hlw2 (Nat.le_succ _); have f55 := f5 (w.heap.size + 1) 2 hlw2 (Nat.le_succ _); clear f5; have PR0 := Pair.normed HW.out rfl (hb4.trans (hb5.mono hb4.size)) (hn4.keep hb5) (hd4.keep hb5) hn5 hd5; have PR := Lib.hid PR0; clear PR0)))
  all_goals
    have PR1 := PR.out
    unfold set3 at PR1
    revert PR1
    generalize (((((w5.setCell ⟨w.heap.size, 0, none⟩ (.bool qa.neg)).setCell ⟨w.heap.size, 1, none⟩ (.slice a1 b1 e1)).setCell ⟨w.heap.size, 2, none⟩ (.slice a2 b2 e2)).setCell ⟨w.heap.size + 1, 0, none⟩ (.bool qb.neg)).setCell ⟨w.heap.size + 1, 1, none⟩ (.slice a3 b3 e3)).setCell ⟨w.heap.size + 1, 2, none⟩ (.slice a4 b4 e4) = W6
    intro PR1
    have PD := Lib.hid (PR1.keep (Below.refl _ _).drew)
    clear PR1 PR d0 d1 d2 d3 d4 d5 g0 g1 g2 g3 g4 g5 k0 k1' k2' k3' k4' k5 f50 f51 f52 f53 f54 f55 S5 S4 S0 FZ HW NA NB hB4 hB5 hb4 hb5 hn4 hd4 hn5 hd5 hv4 hv5 hBd hBW hlw1 hlw2
    go_wp2_with fail
    go_region_held3 (fun w' => w'.cell? ⟨w.heap.size, 0, none⟩ = some (.bool qa.neg) ∧ w'.cell? ⟨w.heap.size, 1, none⟩ = some (.slice a1 b1 e1) ∧ w'.cell? ⟨w.heap.size, 2, none⟩ = some (.slice a2 b2 e2) ∧ w'.cell? ⟨w.heap.size + 1, 0, none⟩ = some (.bool qb.neg) ∧ w'.cell? ⟨w.heap.size + 1, 1, none⟩ = some (.slice a3 b3 e3) ∧ w'.cell? ⟨w.heap.size + 1, 2, none⟩ = some (.slice a4 b4 e4))
      (first | exact PD.out.six | exact P7.out.six | exact P8.out.six | exact P9.out.six)
      (first
        | (go_at_call 30; ((with_reducible refine (mul_num PD.out.n1.num PD.out.n4.num (by omega) (by omega)).mono ?_); rintro e w7 ⟨v7, rfl, hv7, hb7⟩; have P7 := Lib.hid (PD.out.keep hb7)))
        | (go_at_call 30; ((with_reducible refine (mul_num P7.out.n3.num P7.out.n2.num (by omega) (by omega)).mono ?_); rintro e w8 ⟨v8, rfl, hv8, hb8⟩; have P8 := Lib.hid (P7.out.keep hb8); have hv7b := hv7.keep hb8))
        | (go_at_call 67; ((with_reducible refine (sum_b hv7b.num hv8.num hL).mono ?_); rintro e w9 ⟨v9, ss, hss, rfl, hv9, hb9⟩; have HSS := Lib.hid hss; clear hss; have P9 := Lib.hid (P8.out.keep hb9))))
    all_goals
      have c9 := P9.out.six.2.2.1
      have c9' := P9.out.six.2.2.2.2.2
      go_wp2_with (first
        | (go_at_call 30; ((with_reducible refine (mul_num P9.out.n2.num P9.out.n4.num (by omega) (by omega)).mono ?_); rintro e w10 ⟨v10, rfl, hv10, hb10⟩; have P10 := Lib.hid (P9.out.keep hb10); have hv9b := hv9.keep hb10))
        | (go_at_call 42; ((with_reducible refine (make_b hv9b.num hv10.num hL hL2).mono ?_); rintro e w11 ⟨v11, rfl, hv11, hb11⟩; have P11 := Lib.hid (P10.out.keep hb11); obtain ⟨x1, y1, z1, x2, y2, z2, rfl, hvn, hvd⟩ := hv11.shape; have c0 := P11.out.res 0; have c1 := P11.out.res 1; have c2 := P11.out.res 2; have f0 := P11.out.free 0; have f1 := P11.out.free 1; have f2 := P11.out.free 2; simp at c0 c1 c2)))
      refine bodyPost_ret (v := .agg #[.bool (Q.mk' ss.1 ss.2 (qa.d * qb.d)).neg, .slice x1 y1 z1, .slice x2 y2 z2]) (by simp [results, Try.results55, go_sem, c0, c1, c2]) rfl ?_
      have hfin := P11.out.ret hvn hvd _ rfl
      refine ⟨_, rfl, ?_, hfin.2⟩
      rw [HADD.out, ← HSS.out]
      exact hfin.1

end Go.Proofs.Ytlhkjkhbgebgiaa

namespace Go.Proofs.Ytlhkjkhbgebgiaa
open Go.RowKit Go.Proofs.Kit Go.Proofs.Nums

theorem RatAt.flip {w : World} {q : Q} {L : Nat} {vn vd : Value} (h : RatAt w (.agg #[.bool q.neg, vn, vd]) q L) : RatAt w (.agg #[.bool (!q.neg), vn, vd]) q.flip L := by
  obtain ⟨a, b, h1, h2, h3⟩ := h
  simp only [Value.agg.injEq, Array.mk.injEq, List.cons.injEq, true_and, and_true] at h1
  obtain ⟨rfl, rfl⟩ := h1
  exact ⟨_, _, rfl, h2, h3⟩

set_option maxHeartbeats 4000000 in
theorem sub_r {va vb : Value} {a b : Q} {L : Nat} {w : World} (ha : RatAt w va a L) (hb : RatAt w vb b L) (hL : L ≤ 100000) (hL2 : 2 ≤ L) :
    Calls Try.prog 41 #[va, vb] w fun e w' => ∃ v', e = .returned v' ∧ RatN w' v' (Q.sub a b) (2 * L + 1) ∧ Below w.heap.size w w' := by
  obtain ⟨p1, l1, k1, p2, l2, k2, rfl, hn, hd⟩ := ha.shape
  obtain ⟨p3, l3, k3, p4, l4, k4, rfl, hm, hc⟩ := hb.shape
  have AD : Hid (∀ w', Below w.heap.size w w' → Calls Try.prog 55 #[.agg #[.bool a.neg, .slice p1 l1 k1, .slice p2 l2 k2], .agg #[.bool (!b.neg), .slice p3 l3 k3, .slice p4 l4 k4]] w' fun e w'' => ∃ v', e = .returned v' ∧ RatN w'' v' (Q.sub a b) (2 * L + 1) ∧ Below w'.heap.size w' w'') := Lib.hid (fun w' h => add_r (ha.keep h) (hb.keep h).flip hL hL2)
  clear hn hd hm hc ha hb
  obtain ⟨an, hab⟩ : ∃ x, a.neg = x := ⟨_, rfl⟩
  obtain ⟨bn, hbb⟩ : ∃ x, b.neg = x := ⟨_, rfl⟩
  rw [hab, hbb] at AD
  rw [hab, hbb]
  clear hab hbb
  go_enter Try.func41, Try.ntmps41
  go_wp2_with (go_at_call 55; ((with_reducible refine (AD.out _ (by first | exact ((((Below.refl _ _).alloc (Nat.le_refl _) _).alloc (by simp) _).alloc (by simp; omega) _) | exact ((((Below.refl _ _).alloc (Nat.le_refl _) _).alloc (by simp) _).alloc (by simp; omega) _).setCell (by simp) _)).mono ?_); rintro e w1 ⟨v1, rfl, hv1, hb1⟩; obtain ⟨x1, y1, z1, x2, y2, z2, rfl, hvn, hvd⟩ := hv1.shape; have c0 := new_cell hb1 0; have c1 := new_cell hb1 1; have c2 := new_cell hb1 2; have f0 := new_free hb1 0; have f1 := new_free hb1 1; have f2 := new_free hb1 2; simp at c0 c1 c2 f0 f1 f2))
  refine bodyPost_ret (v := .agg #[.bool (Q.sub a b).neg, .slice x1 y1 z1, .slice x2 y2 z2]) (by simp [results, Try.results41, go_sem, c0, c1, c2]) rfl ?_
  exact ⟨_, rfl, ret3 hb1 (by simp; omega) (((Below.refl _ _).alloc (Nat.le_refl _) _).alloc (by simp) _) hvn hvd _ (by simp)⟩

set_option maxHeartbeats 4000000 in
theorem cmp_r {va vb : Value} {a b : Q} {L : Nat} {w : World} (ha : RatAt w va a L) (hb : RatAt w vb b L) (hL : L ≤ 100000) (hL2 : 2 ≤ L) :
    Calls Try.prog 27 #[va, vb] w fun e w' => e = .returned (.int .i64 (Q.cmp a b)) ∧ Below w.heap.size w w' := by
  obtain ⟨p1, l1, k1, p2, l2, k2, rfl, hn, hd⟩ := ha.shape
  obtain ⟨p3, l3, k3, p4, l4, k4, rfl, hm, hc⟩ := hb.shape
  obtain ⟨⟨dneg, dn, dd⟩, hD⟩ : ∃ D, Q.sub a b = D := ⟨_, rfl⟩
  have SU : Hid (∀ w', Below w.heap.size w w' → Calls Try.prog 41 #[.agg #[.bool a.neg, .slice p1 l1 k1, .slice p2 l2 k2], .agg #[.bool b.neg, .slice p3 l3 k3, .slice p4 l4 k4]] w' fun e w'' => ∃ x z x2 y2 z2, e = .returned (.agg #[.bool dneg, .slice x (limbs dn).length z, .slice x2 y2 z2]) ∧ Below w'.heap.size w' w'') := Lib.hid (fun w' h => by
    have := sub_r (ha.keep h) (hb.keep h) hL hL2
    rw [hD] at this
    refine this.mono ?_
    rintro e w'' ⟨v', rfl, ⟨vn, vd, rfl, h1, h2⟩, h3⟩
    obtain ⟨x, z, rfl⟩ := h1.1.shape
    obtain ⟨x2, y2, z2, rfl⟩ := h2.shape
    exact ⟨_, _, _, _, _, rfl, h3⟩)
  have hcmp : Q.cmp a b = if dneg then -1 else if dn = 0 then 0 else 1 := by unfold Q.cmp; rw [hD]
  obtain ⟨C, hC⟩ : ∃ C, Q.cmp a b = C := ⟨_, rfl⟩
  rw [hC] at hcmp ⊢
  clear hn hd hm hc ha hb hD hC
  cases dneg
  · rcases Nat.eq_zero_or_pos dn with h0 | h0
    · subst h0
      obtain rfl : C = 0 := by rw [hcmp]; rfl
      clear hcmp
      have hz : (limbs 0).length = 0 := rfl
      go_enter Try.func27, Try.ntmps27
      go_wp2_with (go_at_call 41; ((with_reducible refine (SU.out _ (((Below.refl _ _).alloc (Nat.le_refl _) _).alloc (by simp) _)).mono ?_); rintro e w1 ⟨x, z, x2, y2, z2, rfl, hb1⟩; have hb1' := (((Below.refl _ _).alloc (Nat.le_refl _) _).alloc (by simp) _ : Below w.heap.size w ((w.alloc _).alloc _)).trans (hb1.mono (by simp; omega))))
      go_ret
      exact ⟨rfl, hb1'.alloc hb1'.size _⟩
    · have hz : (((limbs dn).length : Int) == 0) = false := by rw [beq_eq_false_iff_ne]; have := limbs_len_pos h0; omega
      obtain rfl : C = 1 := by rw [hcmp, if_neg (by simp), if_neg (by omega)]
      clear h0 hcmp
      go_enter Try.func27, Try.ntmps27
      go_wp2_with (go_at_call 41; ((with_reducible refine (SU.out _ (((Below.refl _ _).alloc (Nat.le_refl _) _).alloc (by simp) _)).mono ?_); rintro e w1 ⟨x, z, x2, y2, z2, rfl, hb1⟩; have hb1' := (((Below.refl _ _).alloc (Nat.le_refl _) _).alloc (by simp) _ : Below w.heap.size w ((w.alloc _).alloc _)).trans (hb1.mono (by simp; omega))))
      go_ret
      exact ⟨rfl, hb1'.alloc hb1'.size _⟩
  · obtain rfl : C = -1 := by rw [hcmp]; rfl
    clear hcmp
    go_enter Try.func27, Try.ntmps27
    go_wp2_with (go_at_call 41; ((with_reducible refine (SU.out _ (((Below.refl _ _).alloc (Nat.le_refl _) _).alloc (by simp) _)).mono ?_); rintro e w1 ⟨x, z, x2, y2, z2, rfl, hb1⟩; have hb1' := (((Below.refl _ _).alloc (Nat.le_refl _) _).alloc (by simp) _ : Below w.heap.size w ((w.alloc _).alloc _)).trans (hb1.mono (by simp; omega))))
    go_ret
    exact ⟨rfl, hb1'.alloc hb1'.size _⟩

end Go.Proofs.Ytlhkjkhbgebgiaa
