import Derived.Test.YtaommeapngbgeaaDoorM4
import Derived.Test.YtaommeapngbgeaaDoorGE
import Derived.Test.YtaommeapngbgeaaDoorMV
import Derived.Test.YtaommeapngbgeaaDoorGD
namespace Go.Proofs.YtaommeapngbgeaaDoor
open Go.RowKit Go.Proofs.Kit Go.Proofs.Nums

/-- v is a number of the reference with these fields. -/
def RAt (w : World) (v : Value) (q : Q) : Prop := ∃ vn vd, v = .agg #[.bool q.neg, vn, vd] ∧ BitAt w vn (bitsN q.n) ∧ BitAt w vd (bitsN q.d)
/-- .. whose bits lie in no block below B. -/
def RFr (w : World) (v : Value) (q : Q) (B : Nat) : Prop := ∃ vn vd, v = .agg #[.bool q.neg, vn, vd] ∧ BitAt w vn (bitsN q.n) ∧ BitAt w vd (bitsN q.d) ∧ Fresh B vn ∧ Fresh B vd
theorem RAt.keep {w w' : World} {v : Value} {q : Q} (h : RAt w v q) (hb : Below w.heap.size w w') : RAt w' v q := by
  obtain ⟨vn, vd, h1, h2, h3⟩ := h; exact ⟨vn, vd, h1, h2.keep hb, h3.keep hb⟩
theorem RFr.at {w : World} {v : Value} {q : Q} {B : Nat} (h : RFr w v q B) : RAt w v q := by
  obtain ⟨vn, vd, h1, h2, h3, _, _⟩ := h; exact ⟨vn, vd, h1, h2, h3⟩
theorem BitAt.shp {w : World} {v : Value} {l : List Bool} (h : BitAt w v l) : ∃ p n c, v = .slice p n c := by
  obtain ⟨p, c, h1⟩ := h.shape; exact ⟨p, _, c, h1⟩
theorem RAt.shape {w : World} {v : Value} {q : Q} (h : RAt w v q) : ∃ p1 l1 k1 p2 l2 k2, v = .agg #[.bool q.neg, .slice p1 l1 k1, .slice p2 l2 k2] ∧ BitAt w (.slice p1 l1 k1) (bitsN q.n) ∧ BitAt w (.slice p2 l2 k2) (bitsN q.d) := by
  obtain ⟨vn, vd, rfl, h1, h2⟩ := h
  obtain ⟨p1, l1, k1, rfl⟩ := h1.shp
  obtain ⟨p2, l2, k2, rfl⟩ := h2.shp
  exact ⟨_, _, _, _, _, _, rfl, h1, h2⟩
theorem RFr.shape {w : World} {v : Value} {q : Q} {B : Nat} (h : RFr w v q B) : ∃ p1 l1 k1 p2 l2 k2, v = .agg #[.bool q.neg, .slice p1 l1 k1, .slice p2 l2 k2] ∧ BitAt w (.slice p1 l1 k1) (bitsN q.n) ∧ BitAt w (.slice p2 l2 k2) (bitsN q.d) ∧ Fresh B (.slice p1 l1 k1) ∧ Fresh B (.slice p2 l2 k2) := by
  obtain ⟨vn, vd, rfl, h1, h2, h3, h4⟩ := h
  obtain ⟨p1, l1, k1, rfl⟩ := h1.shp
  obtain ⟨p2, l2, k2, rfl⟩ := h2.shp
  exact ⟨_, _, _, _, _, _, rfl, h1, h2, h3, h4⟩

/-- A block of the call's own, with these cells. -/
def Blk (b : Nat) (cs : Array Value) (w : World) : Prop := b < w.heap.size ∧ (∀ o, w.cell? ⟨b, o, none⟩ = cs[o]?) ∧ (∀ o, w.frozen? ⟨b, o, none⟩ = false)
theorem Blk.keep {b : Nat} {cs : Array Value} {w w' : World} (h : Blk b cs w) (hb : Below w.heap.size w w') : Blk b cs w' :=
  ⟨Nat.lt_of_lt_of_le h.1 hb.size, fun o => by rw [hb.cell (p := ⟨b, o, none⟩) h.1, h.2.1], fun o => by rw [hb.frozen (p := ⟨b, o, none⟩) h.1, h.2.2]⟩
theorem Blk.new (w : World) (cs : Array Value) (T : TypeId) : Blk w.heap.size cs (w.alloc (.cells cs T)) :=
  ⟨by simp, fun o => cell_alloc_new w cs T (0, 0) o, fun o => by
    have h := heap_alloc_new w (.cells cs T)
    unfold World.frozen?
    rw [h]
    simp⟩
theorem Blk.alloc {b : Nat} {cs : Array Value} {w : World} (h : Blk b cs w) (o : Obj) : Blk b cs (w.alloc o) := h.keep ((Below.refl _ _).alloc (Nat.le_refl _) _)
theorem Blk.drew {b : Nat} {cs : Array Value} {w : World} (h : Blk b cs w) : Blk b cs w.drew := h.keep (Below.refl _ _).drew
theorem Blk.three {b : Nat} {x y z : Value} {w : World} (h : Blk b #[x, y, z] w) : w.cell? ⟨b, 0, none⟩ = some x ∧ w.cell? ⟨b, 1, none⟩ = some y ∧ w.cell? ⟨b, 2, none⟩ = some z := ⟨h.2.1 0, h.2.1 1, h.2.1 2⟩
theorem Blk.free3 {b : Nat} {cs : Array Value} {w : World} (h : Blk b cs w) : w.frozen? ⟨b, 0, none⟩ = false ∧ w.frozen? ⟨b, 1, none⟩ = false ∧ w.frozen? ⟨b, 2, none⟩ = false := ⟨h.2.2 0, h.2.2 1, h.2.2 2⟩

theorem BitAt.put3 {w : World} {v : Value} {l : List Bool} {b : Nat} {x y z : Value} (h : BitAt w v l) (hf : Fresh (b + 1) v) : BitAt (((w.setCell ⟨b, 0, none⟩ x).setCell ⟨b, 1, none⟩ y).setCell ⟨b, 2, none⟩ z) v l :=
  RowAt.same h fun k hk => heap_set3 w b x y z k (by have := hf k hk; omega)

/-- A struct of the reference is stored in block b, of the call's own, and handed back. -/
theorem retR {w0 w : World} {B b : Nat} {q : Q} {vn vd : Value} (hw : Below B w0 w) (hB : B ≤ b) (h : RFr w (.agg #[.bool q.neg, vn, vd]) q (b + 1)) :
    RFr (((w.setCell ⟨b, 0, none⟩ (.bool q.neg)).setCell ⟨b, 1, none⟩ vn).setCell ⟨b, 2, none⟩ vd) (.agg #[.bool q.neg, vn, vd]) q B ∧
    Below B w0 (((w.setCell ⟨b, 0, none⟩ (.bool q.neg)).setCell ⟨b, 1, none⟩ vn).setCell ⟨b, 2, none⟩ vd) := by
  obtain ⟨x, y, h1, h2, h3, h4, h5⟩ := h
  simp only [Value.agg.injEq, Array.mk.injEq, List.cons.injEq, true_and, and_true] at h1
  obtain ⟨rfl, rfl⟩ := h1
  exact ⟨⟨_, _, rfl, h2.put3 h4, h3.put3 h5, h4.mono (by omega), h5.mono (by omega)⟩, below_set3 hw hB _ _ _⟩
/-- A Ratio is stored in block b, that holds no limb, and handed back. -/
theorem retN {w0 w : World} {B b L : Nat} {q : Q} {vn vd : Value} {x y z : Value} (hw : Below B w0 w) (hB : B ≤ b) (hb : Blk b #[x, y, z] w) (hx : ∀ t, x ≠ Value.int .u32 t) (hy : ∀ t, y ≠ Value.int .u32 t) (hz : ∀ t, z ≠ Value.int .u32 t) (hn : Nrm w vn q.n L) (hd : Nrm w vd q.d L) :
    RatN (((w.setCell ⟨b, 0, none⟩ (.bool q.neg)).setCell ⟨b, 1, none⟩ vn).setCell ⟨b, 2, none⟩ vd) (.agg #[.bool q.neg, vn, vd]) q L ∧
    Below B w0 (((w.setCell ⟨b, 0, none⟩ (.bool q.neg)).setCell ⟨b, 1, none⟩ vn).setCell ⟨b, 2, none⟩ vd) := by
  have HN : NoLimb w b := fun o t => by rw [hb.2.1]; exact noLimb3 hx hy hz o t
  exact ⟨⟨_, _, rfl, hn.off (heap_set3 _ _ _ _ _) HN, hd.off (heap_set3 _ _ _ _ _) HN⟩, below_set3 hw hB _ _ _⟩

theorem Fresh.le {B B' : Nat} {v : Value} (h : Fresh B v) (hB : B' ≤ B) : Fresh B' v := h.mono hB

end Go.Proofs.YtaommeapngbgeaaDoor
