/- The states of the laws about two Ratios. -/
import Derived.Test.YtcbocdkpdedogaaDoorRT
namespace Go.Proofs.YtcbocdkpdedogaaDoor
open Go.RowKit Go.Proofs.Kit Go.Proofs.Nums

/-- Two Ratios in two blocks. -/
structure P2 (w : World) (cs ds : Array Value) (va vb : Value) (n0 : Bool) (a b : List Nat) (n1 : Bool) (c d : List Nat) (wx : World) : Prop where
  A : Blk w.heap.size cs wx
  B : Blk (w.heap.size + 1) ds wx
  va : RatL wx va n0 a b
  vb : RatL wx vb n1 c d
  below : Below w.heap.size w wx
theorem P2.keep {w : World} {cs ds : Array Value} {va vb : Value} {n0 : Bool} {a b : List Nat} {n1 : Bool} {c d : List Nat} {wx w' : World} (h : P2 w cs ds va vb n0 a b n1 c d wx) (hb : Below wx.heap.size wx w') : P2 w cs ds va vb n0 a b n1 c d w' :=
  ⟨h.A.keep hb, h.B.keep hb, h.va.keep hb, h.vb.keep hb, bel2' h.below hb⟩
theorem P2.alloc {w : World} {cs ds : Array Value} {va vb : Value} {n0 : Bool} {a b : List Nat} {n1 : Bool} {c d : List Nat} {wx : World} (h : P2 w cs ds va vb n0 a b n1 c d wx) (o : Obj) : P2 w cs ds va vb n0 a b n1 c d (wx.alloc o) := h.keep ((Below.refl _ _).alloc (Nat.le_refl _) _)
theorem P2.drew {w : World} {cs ds : Array Value} {va vb : Value} {n0 : Bool} {a b : List Nat} {n1 : Bool} {c d : List Nat} {wx : World} (h : P2 w cs ds va vb n0 a b n1 c d wx) : P2 w cs ds va vb n0 a b n1 c d wx.drew := h.keep (Below.refl _ _).drew
theorem P2.cells {w : World} {x0 x1 x2 y0 y1 y2 : Value} {va vb : Value} {n0 : Bool} {a b : List Nat} {n1 : Bool} {c d : List Nat} {wx : World} (h : P2 w #[x0, x1, x2] #[y0, y1, y2] va vb n0 a b n1 c d wx) :
    wx.cell? ⟨w.heap.size, 0, none⟩ = some x0 ∧ wx.cell? ⟨w.heap.size, 1, none⟩ = some x1 ∧ wx.cell? ⟨w.heap.size, 2, none⟩ = some x2 ∧ wx.cell? ⟨w.heap.size + 1, 0, none⟩ = some y0 ∧ wx.cell? ⟨w.heap.size + 1, 1, none⟩ = some y1 ∧ wx.cell? ⟨w.heap.size + 1, 2, none⟩ = some y2 := cells6 h.A h.B

theorem P2.put {w : World} {cs ds : Array Value} {va vb : Value} {n0 : Bool} {a b : List Nat} {n1 : Bool} {c d : List Nat} {wx : World} (h : P2 w cs ds va vb n0 a b n1 c d wx)
    {X : Nat} {t : Bool} {p1 : Option Addr} {l1 k1 : Nat} {p2 : Option Addr} {l2 k2 : Nat} (hX : Blk X #[.bool t, .slice p1 l1 k1, .slice p2 l2 k2] wx) (hlt : w.heap.size + 1 < X) (x y z : Value) :
    P2 w cs ds va vb n0 a b n1 c d (((wx.setCell ⟨X, 0, none⟩ x).setCell ⟨X, 1, none⟩ y).setCell ⟨X, 2, none⟩ z) :=
  ⟨h.A.put_other (by omega) _ _ _, h.B.put_other (by omega) _ _ _, h.va.put hX.noLimb _ _ _, h.vb.put hX.noLimb _ _ _, below_set3 h.below (by omega) _ _ _⟩

def St1 (w : World) (n0 : Bool) (a b : List Nat) (n1 : Bool) (c d : List Nat) (wx : World) : Prop := ∃ p1 l1 k1 p2 l2 k2 p3 l3 k3 p4 l4 k4,
  P2 w #[.bool n0, .slice p1 l1 k1, .slice p2 l2 k2] #[.bool n1, .slice p3 l3 k3, .slice p4 l4 k4] (.agg #[.bool n0, .slice p1 l1 k1, .slice p2 l2 k2]) (.agg #[.bool n1, .slice p3 l3 k3, .slice p4 l4 k4]) n0 a b n1 c d wx

/-- Both boxes are written anew. -/
theorem St1.of {w wx : World} {t0 t1 : Bool} {q1 : Option Addr} {r1 s1 : Nat} {q2 : Option Addr} {r2 s2 : Nat} {q3 : Option Addr} {r3 s3 : Nat} {q4 : Option Addr} {r4 s4 : Nat}
    {n0 : Bool} {a b : List Nat} {n1 : Bool} {c d : List Nat} {p1 : Option Addr} {l1 k1 : Nat} {p2 : Option Addr} {l2 k2 : Nat} {p3 : Option Addr} {l3 k3 : Nat} {p4 : Option Addr} {l4 k4 : Nat}
    (hA : Blk w.heap.size #[.bool t0, .slice q1 r1 s1, .slice q2 r2 s2] wx) (hB : Blk (w.heap.size + 1) #[.bool t1, .slice q3 r3 s3, .slice q4 r4 s4] wx)
    (va : RatL wx (.agg #[.bool n0, .slice p1 l1 k1, .slice p2 l2 k2]) n0 a b) (vb : RatL wx (.agg #[.bool n1, .slice p3 l3 k3, .slice p4 l4 k4]) n1 c d) (hb : Below w.heap.size w wx) :
    St1 w n0 a b n1 c d ((((((wx.setCell ⟨w.heap.size, 0, none⟩ (.bool n0)).setCell ⟨w.heap.size, 1, none⟩ (.slice p1 l1 k1)).setCell ⟨w.heap.size, 2, none⟩ (.slice p2 l2 k2)).setCell ⟨w.heap.size + 1, 0, none⟩ (.bool n1)).setCell ⟨w.heap.size + 1, 1, none⟩ (.slice p3 l3 k3)).setCell ⟨w.heap.size + 1, 2, none⟩ (.slice p4 l4 k4)) := by
  have nA := hA.noLimb
  have nB := hB.noLimb.put (b' := w.heap.size) (by omega) (.bool n0) (.slice p1 l1 k1) (.slice p2 l2 k2)
  refine ⟨p1, l1, k1, p2, l2, k2, p3, l3, k3, p4, l4, k4, ?_, ?_, ?_, ?_, ?_⟩
  · exact (hA.put_same _ _ _).put_other (by omega) _ _ _
  · exact (hB.put_other (by omega) _ _ _).put_same _ _ _
  · exact (va.put nA _ _ _).put nB _ _ _
  · exact (vb.put nA _ _ _).put nB _ _ _
  · exact below_set3 (below_set3 hb (Nat.le_refl _) _ _ _) (by omega) _ _ _

/-- Two Ratios in two blocks, and two of the reference in two others. -/
structure P4 (w : World) (X Y : Nat) (cs ds xs ys : Array Value) (va vb vx vy : Value) (n0 : Bool) (a b : List Nat) (n1 : Bool) (c d : List Nat) (x y : Q) (wx : World) : Prop where
  P : P2 w cs ds va vb n0 a b n1 c d wx
  bx : Blk X xs wx
  by' : Blk Y ys wx
  vx : RIn wx vx x w.heap.size wx.heap.size
  vy : RIn wx vy y w.heap.size wx.heap.size
  dis : w.heap.size + 1 < X ∧ w.heap.size + 1 < Y ∧ X ≠ Y
theorem P4.keep {w : World} {X Y : Nat} {cs ds xs ys : Array Value} {va vb vx vy : Value} {n0 : Bool} {a b : List Nat} {n1 : Bool} {c d : List Nat} {x y : Q} {wx w' : World} (h : P4 w X Y cs ds xs ys va vb vx vy n0 a b n1 c d x y wx) (hb : Below wx.heap.size wx w') : P4 w X Y cs ds xs ys va vb vx vy n0 a b n1 c d x y w' :=
  ⟨h.P.keep hb, h.bx.keep hb, h.by'.keep hb, (h.vx.keep hb).wide (Nat.le_refl _) hb.size, (h.vy.keep hb).wide (Nat.le_refl _) hb.size, h.dis⟩
theorem P4.drew {w : World} {X Y : Nat} {cs ds xs ys : Array Value} {va vb vx vy : Value} {n0 : Bool} {a b : List Nat} {n1 : Bool} {c d : List Nat} {x y : Q} {wx : World} (h : P4 w X Y cs ds xs ys va vb vx vy n0 a b n1 c d x y wx) : P4 w X Y cs ds xs ys va vb vx vy n0 a b n1 c d x y wx.drew := h.keep (Below.refl _ _).drew
theorem P4.alloc {w : World} {X Y : Nat} {cs ds xs ys : Array Value} {va vb vx vy : Value} {n0 : Bool} {a b : List Nat} {n1 : Bool} {c d : List Nat} {x y : Q} {wx : World} (h : P4 w X Y cs ds xs ys va vb vx vy n0 a b n1 c d x y wx) (o : Obj) : P4 w X Y cs ds xs ys va vb vx vy n0 a b n1 c d x y (wx.alloc o) := h.keep ((Below.refl _ _).alloc (Nat.le_refl _) _)
theorem P4.cells {w : World} {X Y : Nat} {x0 x1 x2 y0 y1 y2 z0 z1 z2 u0 u1 u2 : Value} {va vb vx vy : Value} {n0 : Bool} {a b : List Nat} {n1 : Bool} {c d : List Nat} {x y : Q} {wx : World} (h : P4 w X Y #[x0, x1, x2] #[y0, y1, y2] #[z0, z1, z2] #[u0, u1, u2] va vb vx vy n0 a b n1 c d x y wx) :
    wx.cell? ⟨w.heap.size, 0, none⟩ = some x0 ∧ wx.cell? ⟨w.heap.size, 1, none⟩ = some x1 ∧ wx.cell? ⟨w.heap.size, 2, none⟩ = some x2 ∧ wx.cell? ⟨w.heap.size + 1, 0, none⟩ = some y0 ∧ wx.cell? ⟨w.heap.size + 1, 1, none⟩ = some y1 ∧ wx.cell? ⟨w.heap.size + 1, 2, none⟩ = some y2 ∧
    wx.cell? ⟨X, 0, none⟩ = some z0 ∧ wx.cell? ⟨X, 1, none⟩ = some z1 ∧ wx.cell? ⟨X, 2, none⟩ = some z2 ∧ wx.cell? ⟨Y, 0, none⟩ = some u0 ∧ wx.cell? ⟨Y, 1, none⟩ = some u1 ∧ wx.cell? ⟨Y, 2, none⟩ = some u2 :=
  ⟨h.P.A.three.1, h.P.A.three.2.1, h.P.A.three.2.2, h.P.B.three.1, h.P.B.three.2.1, h.P.B.three.2.2, h.bx.three.1, h.bx.three.2.1, h.bx.three.2.2, h.by'.three.1, h.by'.three.2.1, h.by'.three.2.2⟩

def St2 (w : World) (n0 : Bool) (a b : List Nat) (n1 : Bool) (c d : List Nat) (x y : Q) (X Y : Nat) (wx : World) : Prop := ∃ p1 l1 k1 p2 l2 k2 p3 l3 k3 p4 l4 k4 p5 l5 k5 p6 l6 k6 p7 l7 k7 p8 l8 k8,
  P4 w X Y #[.bool n0, .slice p1 l1 k1, .slice p2 l2 k2] #[.bool n1, .slice p3 l3 k3, .slice p4 l4 k4] #[.bool x.neg, .slice p5 l5 k5, .slice p6 l6 k6] #[.bool y.neg, .slice p7 l7 k7, .slice p8 l8 k8] (.agg #[.bool n0, .slice p1 l1 k1, .slice p2 l2 k2]) (.agg #[.bool n1, .slice p3 l3 k3, .slice p4 l4 k4]) (.agg #[.bool x.neg, .slice p5 l5 k5, .slice p6 l6 k6]) (.agg #[.bool y.neg, .slice p7 l7 k7, .slice p8 l8 k8]) n0 a b n1 c d x y wx

/-- Both of the reference are stored. -/
theorem St2.of {w wx : World} {X Y : Nat} {n0 : Bool} {a b : List Nat} {n1 : Bool} {c d : List Nat} {x y : Q} {lo hi lo' hi' : Nat} {p1 : Option Addr} {l1 k1 : Nat} {p2 : Option Addr} {l2 k2 : Nat} {p3 : Option Addr} {l3 k3 : Nat} {p4 : Option Addr} {l4 k4 : Nat} {p5 : Option Addr} {l5 k5 : Nat} {p6 : Option Addr} {l6 k6 : Nat} {p7 : Option Addr} {l7 k7 : Nat} {p8 : Option Addr} {l8 k8 : Nat}
    (h : P2 w #[.bool n0, .slice p1 l1 k1, .slice p2 l2 k2] #[.bool n1, .slice p3 l3 k3, .slice p4 l4 k4] (.agg #[.bool n0, .slice p1 l1 k1, .slice p2 l2 k2]) (.agg #[.bool n1, .slice p3 l3 k3, .slice p4 l4 k4]) n0 a b n1 c d wx)
    (hX : Blk X #[.bool false, .slice none 0 0, .slice none 0 0] wx) (hY : Blk Y #[.bool false, .slice none 0 0, .slice none 0 0] wx)
    (vx : RIn wx (.agg #[.bool x.neg, .slice p5 l5 k5, .slice p6 l6 k6]) x lo hi) (vy : RIn wx (.agg #[.bool y.neg, .slice p7 l7 k7, .slice p8 l8 k8]) y lo' hi')
    (dis : w.heap.size + 1 < X ∧ w.heap.size + 1 < Y ∧ X ≠ Y) (d1 : X < lo ∨ hi ≤ X) (d2 : Y < lo ∨ hi ≤ Y) (d3 : X < lo' ∨ hi' ≤ X) (d4 : Y < lo' ∨ hi' ≤ Y) (e1 : w.heap.size ≤ lo ∧ hi ≤ wx.heap.size) (e2 : w.heap.size ≤ lo' ∧ hi' ≤ wx.heap.size) :
    St2 w n0 a b n1 c d x y X Y ((((((wx.setCell ⟨X, 0, none⟩ (.bool x.neg)).setCell ⟨X, 1, none⟩ (.slice p5 l5 k5)).setCell ⟨X, 2, none⟩ (.slice p6 l6 k6)).setCell ⟨Y, 0, none⟩ (.bool y.neg)).setCell ⟨Y, 1, none⟩ (.slice p7 l7 k7)).setCell ⟨Y, 2, none⟩ (.slice p8 l8 k8)) := by
  have nX := hX.noLimb
  have nY := hY.noLimb.put (b' := X) (by omega) (.bool x.neg) (.slice p5 l5 k5) (.slice p6 l6 k6)
  refine ⟨p1, l1, k1, p2, l2, k2, p3, l3, k3, p4, l4, k4, p5, l5, k5, p6, l6, k6, p7, l7, k7, p8, l8, k8, ⟨?_, ?_, ?_, ?_, ?_⟩, ?_, ?_, ?_, ?_, dis⟩
  · exact (h.A.put_other (by omega) _ _ _).put_other (by omega) _ _ _
  · exact (h.B.put_other (by omega) _ _ _).put_other (by omega) _ _ _
  · exact (h.va.put nX _ _ _).put nY _ _ _
  · exact (h.vb.put nX _ _ _).put nY _ _ _
  · exact below_set3 (below_set3 h.below (by omega) _ _ _) (by omega) _ _ _
  · exact (hX.put_same _ _ _).put_other (by omega) _ _ _
  · exact (hY.put_other (by omega) _ _ _).put_same _ _ _
  · simp only [World.size_setCell]
    exact ((vx.put d1 _ _ _).put d2 _ _ _).wide e1.1 e1.2
  · simp only [World.size_setCell]
    exact ((vy.put d3 _ _ _).put d4 _ _ _).wide e2.1 e2.2

/-- .. where the first of them lies in the newest block. -/
theorem St2.of4 {w wx : World} {n0 : Bool} {a b : List Nat} {n1 : Bool} {c d : List Nat} {x y : Q} {lo hi lo' hi' : Nat} {T : TypeId} {p1 : Option Addr} {l1 k1 : Nat} {p2 : Option Addr} {l2 k2 : Nat} {p3 : Option Addr} {l3 k3 : Nat} {p4 : Option Addr} {l4 k4 : Nat} {p5 : Option Addr} {l5 k5 : Nat} {p6 : Option Addr} {l6 k6 : Nat} {p7 : Option Addr} {l7 k7 : Nat} {p8 : Option Addr} {l8 k8 : Nat} {Y : Nat} (h : P2 w #[.bool n0, .slice p1 l1 k1, .slice p2 l2 k2] #[.bool n1, .slice p3 l3 k3, .slice p4 l4 k4] (.agg #[.bool n0, .slice p1 l1 k1, .slice p2 l2 k2]) (.agg #[.bool n1, .slice p3 l3 k3, .slice p4 l4 k4]) n0 a b n1 c d wx) (hY : Blk Y #[.bool false, .slice none 0 0, .slice none 0 0] wx) (vx : RIn wx (.agg #[.bool x.neg, .slice p5 l5 k5, .slice p6 l6 k6]) x lo hi) (vy : RIn wx (.agg #[.bool y.neg, .slice p7 l7 k7, .slice p8 l8 k8]) y lo' hi')
    (dis : w.heap.size + 1 < Y ∧ (Y < lo ∨ hi ≤ Y) ∧ (Y < lo' ∨ hi' ≤ Y)) (e1 : w.heap.size ≤ lo ∧ hi ≤ wx.heap.size) (e2 : w.heap.size ≤ lo' ∧ hi' ≤ wx.heap.size) :
    St2 w n0 a b n1 c d x y wx.heap.size Y ((((wx.alloc (.cells #[.bool x.neg, .slice p5 l5 k5, .slice p6 l6 k6] T)).setCell ⟨Y, 0, none⟩ (.bool y.neg)).setCell ⟨Y, 1, none⟩ (.slice p7 l7 k7)).setCell ⟨Y, 2, none⟩ (.slice p8 l8 k8)) := by
  have hlt := hY.1
  have hl2 := h.B.1
  refine ⟨p1, l1, k1, p2, l2, k2, p3, l3, k3, p4, l4, k4, p5, l5, k5, p6, l6, k6, p7, l7, k7, p8, l8, k8, ?_, ?_, ?_, ?_, ?_, by omega⟩
  · exact (h.alloc _).put (hY.alloc _) dis.1 _ _ _
  · exact (Blk.new wx _ _).put_other (by omega) _ _ _
  · exact (hY.alloc _).put_same _ _ _
  · simp only [World.size_setCell, World.size_alloc]
    exact ((vx.al _).put dis.2.1 _ _ _).wide e1.1 (by omega)
  · simp only [World.size_setCell, World.size_alloc]
    exact ((vy.al _).put dis.2.2 _ _ _).wide e2.1 (by omega)
/-- .. where both are new. -/
theorem St2.of1 {w wx : World} {n0 : Bool} {a b : List Nat} {n1 : Bool} {c d : List Nat} {x y : Q} {lo hi lo' hi' : Nat} {T : TypeId} {p1 : Option Addr} {l1 k1 : Nat} {p2 : Option Addr} {l2 k2 : Nat} {p3 : Option Addr} {l3 k3 : Nat} {p4 : Option Addr} {l4 k4 : Nat} {p5 : Option Addr} {l5 k5 : Nat} {p6 : Option Addr} {l6 k6 : Nat} {p7 : Option Addr} {l7 k7 : Nat} {p8 : Option Addr} {l8 k8 : Nat} (h : P2 w #[.bool n0, .slice p1 l1 k1, .slice p2 l2 k2] #[.bool n1, .slice p3 l3 k3, .slice p4 l4 k4] (.agg #[.bool n0, .slice p1 l1 k1, .slice p2 l2 k2]) (.agg #[.bool n1, .slice p3 l3 k3, .slice p4 l4 k4]) n0 a b n1 c d wx) (vx : RIn wx (.agg #[.bool x.neg, .slice p5 l5 k5, .slice p6 l6 k6]) x lo hi) (vy : RIn wx (.agg #[.bool y.neg, .slice p7 l7 k7, .slice p8 l8 k8]) y lo' hi') (e1 : w.heap.size ≤ lo ∧ hi ≤ wx.heap.size) (e2 : w.heap.size ≤ lo' ∧ hi' ≤ wx.heap.size) : St2 w n0 a b n1 c d x y wx.heap.size (wx.heap.size + 1) ((wx.alloc (.cells #[.bool x.neg, .slice p5 l5 k5, .slice p6 l6 k6] T)).alloc (.cells #[.bool y.neg, .slice p7 l7 k7, .slice p8 l8 k8] T)) := by
  have hl2 := h.B.1
  refine ⟨p1, l1, k1, p2, l2, k2, p3, l3, k3, p4, l4, k4, p5, l5, k5, p6, l6, k6, p7, l7, k7, p8, l8, k8, (h.alloc _).alloc _, (Blk.new wx _ _).alloc _, Blk.new' _ _ _ (World.size_alloc _ _).symm, ?_, ?_, by omega⟩
  · simp only [World.size_alloc]
    exact ((vx.al _).al _).wide e1.1 (by omega)
  · simp only [World.size_alloc]
    exact ((vy.al _).al _).wide e2.1 (by omega)
theorem St2.of2 {w wx : World} {n0 : Bool} {a b : List Nat} {n1 : Bool} {c d : List Nat} {x y : Q} {lo hi lo' hi' : Nat} {T : TypeId} {p1 : Option Addr} {l1 k1 : Nat} {p2 : Option Addr} {l2 k2 : Nat} {p3 : Option Addr} {l3 k3 : Nat} {p4 : Option Addr} {l4 k4 : Nat} {p5 : Option Addr} {l5 k5 : Nat} {p6 : Option Addr} {l6 k6 : Nat} {p7 : Option Addr} {l7 k7 : Nat} {p8 : Option Addr} {l8 k8 : Nat} (h : P2 w #[.bool n0, .slice p1 l1 k1, .slice p2 l2 k2] #[.bool n1, .slice p3 l3 k3, .slice p4 l4 k4] (.agg #[.bool n0, .slice p1 l1 k1, .slice p2 l2 k2]) (.agg #[.bool n1, .slice p3 l3 k3, .slice p4 l4 k4]) n0 a b n1 c d wx) (vx : RIn wx (.agg #[.bool x.neg, .slice p5 l5 k5, .slice p6 l6 k6]) x lo hi) (vy : RIn wx (.agg #[.bool y.neg, .slice p7 l7 k7, .slice p8 l8 k8]) y lo' hi') (e1 : w.heap.size ≤ lo ∧ hi ≤ wx.heap.size) (e2 : w.heap.size ≤ lo' ∧ hi' ≤ wx.heap.size) : St2 w n0 a b n1 c d x y (wx.heap.size + 1) wx.heap.size ((wx.alloc (.cells #[.bool y.neg, .slice p7 l7 k7, .slice p8 l8 k8] T)).alloc (.cells #[.bool x.neg, .slice p5 l5 k5, .slice p6 l6 k6] T)) := by
  have hl2 := h.B.1
  refine ⟨p1, l1, k1, p2, l2, k2, p3, l3, k3, p4, l4, k4, p5, l5, k5, p6, l6, k6, p7, l7, k7, p8, l8, k8, (h.alloc _).alloc _, Blk.new' _ _ _ (World.size_alloc _ _).symm, (Blk.new wx _ _).alloc _, ?_, ?_, by omega⟩
  · simp only [World.size_alloc]
    exact ((vx.al _).al _).wide e1.1 (by omega)
  · simp only [World.size_alloc]
    exact ((vy.al _).al _).wide e2.1 (by omega)

theorem six_put {w : World} {H X : Nat} {a0 a1 a2 b0 b1 b2 : Value} (x y z : Value)
    (h : w.cell? ⟨H, 0, none⟩ = some a0 ∧ w.cell? ⟨H, 1, none⟩ = some a1 ∧ w.cell? ⟨H, 2, none⟩ = some a2 ∧ w.cell? ⟨H + 1, 0, none⟩ = some b0 ∧ w.cell? ⟨H + 1, 1, none⟩ = some b1 ∧ w.cell? ⟨H + 1, 2, none⟩ = some b2) (hX : H + 1 < X) :
    (((w.setCell ⟨X, 0, none⟩ x).setCell ⟨X, 1, none⟩ y).setCell ⟨X, 2, none⟩ z).cell? ⟨H, 0, none⟩ = some a0 ∧ (((w.setCell ⟨X, 0, none⟩ x).setCell ⟨X, 1, none⟩ y).setCell ⟨X, 2, none⟩ z).cell? ⟨H, 1, none⟩ = some a1 ∧ (((w.setCell ⟨X, 0, none⟩ x).setCell ⟨X, 1, none⟩ y).setCell ⟨X, 2, none⟩ z).cell? ⟨H, 2, none⟩ = some a2 ∧ (((w.setCell ⟨X, 0, none⟩ x).setCell ⟨X, 1, none⟩ y).setCell ⟨X, 2, none⟩ z).cell? ⟨H + 1, 0, none⟩ = some b0 ∧ (((w.setCell ⟨X, 0, none⟩ x).setCell ⟨X, 1, none⟩ y).setCell ⟨X, 2, none⟩ z).cell? ⟨H + 1, 1, none⟩ = some b1 ∧ (((w.setCell ⟨X, 0, none⟩ x).setCell ⟨X, 1, none⟩ y).setCell ⟨X, 2, none⟩ z).cell? ⟨H + 1, 2, none⟩ = some b2 := by
  have e : ∀ b o, b ≠ X → (((w.setCell ⟨X, 0, none⟩ x).setCell ⟨X, 1, none⟩ y).setCell ⟨X, 2, none⟩ z).cell? ⟨b, o, none⟩ = w.cell? ⟨b, o, none⟩ := fun b o hb => set3_out (w := w) (b := X) (b' := b) (o := o) (x := x) (y := y) (z := z) hb
  rw [e H 0 (by omega), e H 1 (by omega), e H 2 (by omega), e (H + 1) 0 (by omega), e (H + 1) 1 (by omega), e (H + 1) 2 (by omega)]
  exact h

end Go.Proofs.YtcbocdkpdedogaaDoor
