/- Blocks of three cells: stores, and what is read elsewhere. -/
import Derived.Test.YtcbocdkpdedogaaDoorR8
import Derived.Test.YtcbocdkpdedogaaDoorR18
namespace Go.Proofs.YtcbocdkpdedogaaDoor
open Go.RowKit Go.Proofs.Kit Go.Proofs.Nums

theorem Blk.put_other {b b' : Nat} {cs : Array Value} {w : World} (h : Blk b cs w) (hne : b ≠ b') (x y z : Value) : Blk b cs (((w.setCell ⟨b', 0, none⟩ x).setCell ⟨b', 1, none⟩ y).setCell ⟨b', 2, none⟩ z) :=
  ⟨by simpa [World.size_setCell] using h.1, fun o => (set3_out (w := w) (x := x) (y := y) (z := z) hne).trans (h.2.1 o), fun o => (set3_free (w := w) (x := x) (y := y) (z := z) hne).trans (h.2.2 o)⟩
theorem Blk.put_same {b : Nat} {x0 y0 z0 : Value} {w : World} (h : Blk b #[x0, y0, z0] w) (x y z : Value) : Blk b #[x, y, z] (((w.setCell ⟨b, 0, none⟩ x).setCell ⟨b, 1, none⟩ y).setCell ⟨b, 2, none⟩ z) := by
  obtain ⟨h0, h1, h2⟩ := h.three
  refine ⟨by simpa [World.size_setCell] using h.1, fun o => ?_, fun o => ?_⟩
  · have g := set3_in (w := w) (b := b) (x := x) (y := y) (z := z) h0 h1 h2
    unfold set3 at g
    match o with
    | 0 => exact g.1
    | 1 => exact g.2.1
    | 2 => exact g.2.2
    | o + 3 =>
      rw [cell_other (by omega), cell_other (by omega), cell_other (by omega), h.2.1]
      simp
  · rw [World.frozen?_setCell, World.frozen?_setCell, World.frozen?_setCell]
    exact h.2.2 o
theorem Blk.noLimb {b : Nat} {t : Bool} {p1 : Option Addr} {l1 k1 : Nat} {p2 : Option Addr} {l2 k2 : Nat} {w : World} (h : Blk b #[.bool t, .slice p1 l1 k1, .slice p2 l2 k2] w) : NoLimb w b :=
  fun o x => by rw [h.2.1]; exact noLimb3 (by simp) (by simp) (by simp) o x

theorem RatN.put {w : World} {v : Value} {q : Q} {L b : Nat} (h : RatN w v q L) (hn : NoLimb w b) (x y z : Value) : RatN (((w.setCell ⟨b, 0, none⟩ x).setCell ⟨b, 1, none⟩ y).setCell ⟨b, 2, none⟩ z) v q L := by
  obtain ⟨vn, vd, h1, h2, h3⟩ := h
  exact ⟨vn, vd, h1, h2.off (heap_set3 _ _ _ _ _) hn, h3.off (heap_set3 _ _ _ _ _) hn⟩
theorem RatAt.put {w : World} {v : Value} {q : Q} {L b : Nat} (h : RatAt w v q L) (hn : NoLimb w b) (x y z : Value) : RatAt (((w.setCell ⟨b, 0, none⟩ x).setCell ⟨b, 1, none⟩ y).setCell ⟨b, 2, none⟩ z) v q L := by
  obtain ⟨vn, vd, h1, h2, h3⟩ := h
  exact ⟨vn, vd, h1, h2.off (heap_set3 _ _ _ _ _) hn, h3.off (heap_set3 _ _ _ _ _) hn⟩
theorem RatL.put {w : World} {v : Value} {t : Bool} {l1 l2 : List Nat} {b : Nat} (h : RatL w v t l1 l2) (hn : NoLimb w b) (x y z : Value) : RatL (((w.setCell ⟨b, 0, none⟩ x).setCell ⟨b, 1, none⟩ y).setCell ⟨b, 2, none⟩ z) v t l1 l2 := by
  obtain ⟨vn, vd, h1, h2, h3⟩ := h
  exact ⟨vn, vd, h1, h2.off (heap_set3 _ _ _ _ _) hn, h3.off (heap_set3 _ _ _ _ _) hn⟩
theorem NoLimb.put {w : World} {b b' : Nat} (h : NoLimb w b) (hne : b ≠ b') (x y z : Value) : NoLimb (((w.setCell ⟨b', 0, none⟩ x).setCell ⟨b', 1, none⟩ y).setCell ⟨b', 2, none⟩ z) b := fun o t => by
  have e := set3_out (w := w) (o := o) (x := x) (y := y) (z := z) hne
  unfold set3 at e
  rw [e]; exact h o t

/-- Bits that are read between two marks of the heap. -/
def BitIn (w : World) (v : Value) (l : List Bool) (lo hi : Nat) : Prop := BitAt w v l ∧ (l = [] ∨ ∀ g, v.ownBlock = some g → lo ≤ g ∧ g < hi)
theorem BitIn.of {w : World} {v : Value} {l : List Bool} {B : Nat} (h : BitAt w v l) (hf : Fresh B v) : BitIn w v l B w.heap.size := by
  refine ⟨h, ?_⟩
  rcases RowAt.cases h with ⟨h1, _⟩ | ⟨h1, b, off, cap, rfl, _, _, hb, _⟩
  · left
    exact List.map_eq_nil_iff.1 h1
  · right
    intro g hg
    refine ⟨hf g hg, ?_⟩
    simp [Value.ownBlock] at hg
    omega
theorem BitIn.put {w : World} {v : Value} {l : List Bool} {lo hi b : Nat} (h : BitIn w v l lo hi) (hb : b < lo ∨ hi ≤ b) (x y z : Value) : BitIn (((w.setCell ⟨b, 0, none⟩ x).setCell ⟨b, 1, none⟩ y).setCell ⟨b, 2, none⟩ z) v l lo hi := by
  refine ⟨?_, h.2⟩
  rcases h.2 with h2 | h2
  · subst h2
    rcases RowAt.cases h.1 with ⟨_, p, cap, rfl, h3, h4⟩ | ⟨h3, _⟩
    · exact RowAt.empty h3 h4
    · simp at h3
  · refine RowAt.same h.1 fun g hg => heap_set3 _ _ _ _ _ _ ?_
    have := h2 g hg
    omega
theorem BitIn.keep {w w' : World} {v : Value} {l : List Bool} {lo hi : Nat} (h : BitIn w v l lo hi) (hb : Below w.heap.size w w') : BitIn w' v l lo hi := ⟨h.1.keep hb, h.2⟩

/-- A Ratio of the reference whose bits are read between two marks of the heap. -/
def RIn (w : World) (v : Value) (q : Q) (lo hi : Nat) : Prop := ∃ vn vd, v = .agg #[.bool q.neg, vn, vd] ∧ BitIn w vn (bitsN q.n) lo hi ∧ BitIn w vd (bitsN q.d) lo hi
theorem RIn.of {w : World} {v : Value} {q : Q} {B : Nat} (h : RFr w v q B) : RIn w v q B w.heap.size := by
  obtain ⟨vn, vd, h1, h2, h3, h4, h5⟩ := h
  exact ⟨vn, vd, h1, .of h2 h4, .of h3 h5⟩
theorem RIn.put {w : World} {v : Value} {q : Q} {lo hi b : Nat} (h : RIn w v q lo hi) (hb : b < lo ∨ hi ≤ b) (x y z : Value) : RIn (((w.setCell ⟨b, 0, none⟩ x).setCell ⟨b, 1, none⟩ y).setCell ⟨b, 2, none⟩ z) v q lo hi := by
  obtain ⟨vn, vd, h1, h2, h3⟩ := h
  exact ⟨vn, vd, h1, h2.put hb _ _ _, h3.put hb _ _ _⟩
theorem RIn.keep {w w' : World} {v : Value} {q : Q} {lo hi : Nat} (h : RIn w v q lo hi) (hb : Below w.heap.size w w') : RIn w' v q lo hi := by
  obtain ⟨vn, vd, h1, h2, h3⟩ := h
  exact ⟨vn, vd, h1, h2.keep hb, h3.keep hb⟩
theorem RIn.wide {w : World} {v : Value} {q : Q} {lo hi lo' hi' : Nat} (h : RIn w v q lo hi) (h1 : lo' ≤ lo) (h2 : hi ≤ hi') : RIn w v q lo' hi' := by
  obtain ⟨vn, vd, e1, e2, e3⟩ := h
  exact ⟨vn, vd, e1, ⟨e2.1, e2.2.imp id (fun k g hg => ⟨Nat.le_trans h1 (k g hg).1, Nat.lt_of_lt_of_le (k g hg).2 h2⟩)⟩, ⟨e3.1, e3.2.imp id (fun k g hg => ⟨Nat.le_trans h1 (k g hg).1, Nat.lt_of_lt_of_le (k g hg).2 h2⟩)⟩⟩
theorem RIn.at {w : World} {v : Value} {q : Q} {lo hi : Nat} (h : RIn w v q lo hi) : RAt w v q := by
  obtain ⟨vn, vd, h1, h2, h3⟩ := h
  exact ⟨vn, vd, h1, h2.1, h3.1⟩

end Go.Proofs.YtcbocdkpdedogaaDoor
