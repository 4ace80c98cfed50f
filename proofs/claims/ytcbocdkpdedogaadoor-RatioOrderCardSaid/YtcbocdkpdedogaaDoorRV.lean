/- The state of the law about the order: two Ratios, two of the reference, and copies of these. -/
import Derived.Test.YtcbocdkpdedogaaDoorRU
namespace Go.Proofs.YtcbocdkpdedogaaDoor
open Go.RowKit Go.Proofs.Kit Go.Proofs.Nums

structure P6 (w : World) (X Y M N : Nat) (cs ds xs ys ms ns : Array Value) (va vb vx vy : Value) (n0 : Bool) (a b : List Nat) (n1 : Bool) (c d : List Nat) (x y : Q) (hi : Nat) (wx : World) : Prop where
  P : P2 w cs ds va vb n0 a b n1 c d wx
  bx : Blk X xs wx
  by' : Blk Y ys wx
  bm : Blk M ms wx
  bn : Blk N ns wx
  vx : RIn wx vx x w.heap.size hi
  vy : RIn wx vy y w.heap.size hi
  dis : w.heap.size + 1 < X ∧ w.heap.size + 1 < Y ∧ X ≠ Y ∧ X < hi ∧ Y < hi ∧ hi ≤ M ∧ hi ≤ N ∧ M ≠ N
theorem P6.keep {w : World} {X Y M N : Nat} {cs ds xs ys ms ns : Array Value} {va vb vx vy : Value} {n0 : Bool} {a b : List Nat} {n1 : Bool} {c d : List Nat} {x y : Q} {hi : Nat} {wx w' : World} (h : P6 w X Y M N cs ds xs ys ms ns va vb vx vy n0 a b n1 c d x y hi wx) (hb : Below wx.heap.size wx w') : P6 w X Y M N cs ds xs ys ms ns va vb vx vy n0 a b n1 c d x y hi w' :=
  ⟨h.P.keep hb, h.bx.keep hb, h.by'.keep hb, h.bm.keep hb, h.bn.keep hb, h.vx.keep hb, h.vy.keep hb, h.dis⟩
theorem P6.drew {w : World} {X Y M N : Nat} {cs ds xs ys ms ns : Array Value} {va vb vx vy : Value} {n0 : Bool} {a b : List Nat} {n1 : Bool} {c d : List Nat} {x y : Q} {hi : Nat} {wx : World} (h : P6 w X Y M N cs ds xs ys ms ns va vb vx vy n0 a b n1 c d x y hi wx) : P6 w X Y M N cs ds xs ys ms ns va vb vx vy n0 a b n1 c d x y hi wx.drew := h.keep (Below.refl _ _).drew
theorem P6.cells {w : World} {X Y M N : Nat} {x0 x1 x2 y0 y1 y2 z0 z1 z2 u0 u1 u2 : Value} {xs ys : Array Value} {va vb vx vy : Value} {n0 : Bool} {a b : List Nat} {n1 : Bool} {c d : List Nat} {x y : Q} {hi : Nat} {wx : World} (h : P6 w X Y M N #[x0, x1, x2] #[y0, y1, y2] xs ys #[z0, z1, z2] #[u0, u1, u2] va vb vx vy n0 a b n1 c d x y hi wx) :
    wx.cell? ⟨w.heap.size, 0, none⟩ = some x0 ∧ wx.cell? ⟨w.heap.size, 1, none⟩ = some x1 ∧ wx.cell? ⟨w.heap.size, 2, none⟩ = some x2 ∧ wx.cell? ⟨w.heap.size + 1, 0, none⟩ = some y0 ∧ wx.cell? ⟨w.heap.size + 1, 1, none⟩ = some y1 ∧ wx.cell? ⟨w.heap.size + 1, 2, none⟩ = some y2 ∧
    wx.cell? ⟨M, 0, none⟩ = some z0 ∧ wx.cell? ⟨M, 1, none⟩ = some z1 ∧ wx.cell? ⟨M, 2, none⟩ = some z2 ∧ wx.cell? ⟨N, 0, none⟩ = some u0 ∧ wx.cell? ⟨N, 1, none⟩ = some u1 ∧ wx.cell? ⟨N, 2, none⟩ = some u2 :=
  ⟨h.P.A.three.1, h.P.A.three.2.1, h.P.A.three.2.2, h.P.B.three.1, h.P.B.three.2.1, h.P.B.three.2.2, h.bm.three.1, h.bm.three.2.1, h.bm.three.2.2, h.bn.three.1, h.bn.three.2.1, h.bn.three.2.2⟩
/-- Both copies are written anew. -/
theorem P6.swap {w : World} {X Y M N : Nat} {cs ds xs ys : Array Value} {t0 t1 : Bool} {q1 : Option Addr} {r1 s1 : Nat} {q2 : Option Addr} {r2 s2 : Nat} {q3 : Option Addr} {r3 s3 : Nat} {q4 : Option Addr} {r4 s4 : Nat} {va vb vx vy : Value} {n0 : Bool} {a b : List Nat} {n1 : Bool} {c d : List Nat} {x y : Q} {hi : Nat} {wx : World} {z0 z1 z2 u0 u1 u2 : Value}
    (h : P6 w X Y M N cs ds xs ys #[.bool t0, .slice q1 r1 s1, .slice q2 r2 s2] #[.bool t1, .slice q3 r3 s3, .slice q4 r4 s4] va vb vx vy n0 a b n1 c d x y hi wx) :
    P6 w X Y M N cs ds xs ys #[z0, z1, z2] #[u0, u1, u2] va vb vx vy n0 a b n1 c d x y hi ((((((wx.setCell ⟨M, 0, none⟩ z0).setCell ⟨M, 1, none⟩ z1).setCell ⟨M, 2, none⟩ z2).setCell ⟨N, 0, none⟩ u0).setCell ⟨N, 1, none⟩ u1).setCell ⟨N, 2, none⟩ u2) := by
  have hd := h.dis
  have h1 := h.P.put h.bm (by omega) z0 z1 z2
  have b1 := h.bn.put_other (b' := M) (by omega) z0 z1 z2
  refine ⟨h1.put b1 (by omega) _ _ _, ?_, ?_, ?_, ?_, ?_, ?_, hd⟩
  · exact (h.bx.put_other (by omega) _ _ _).put_other (by omega) _ _ _
  · exact (h.by'.put_other (by omega) _ _ _).put_other (by omega) _ _ _
  · exact (h.bm.put_same _ _ _).put_other (by omega) _ _ _
  · exact b1.put_same _ _ _
  · exact (h.vx.put (by omega) _ _ _).put (by omega) _ _ _
  · exact (h.vy.put (by omega) _ _ _).put (by omega) _ _ _

/-- Both copies are new. -/
theorem P6.new1 {w : World} {X Y : Nat} {cs ds xs ys : Array Value} {va vb vx vy : Value} {n0 : Bool} {a b : List Nat} {n1 : Bool} {c d : List Nat} {x y : Q} {hi : Nat} {wx : World} {ms ns : Array Value} {T : TypeId} (h : P4 w X Y cs ds xs ys va vb vx vy n0 a b n1 c d x y wx) (hh : hi = wx.heap.size) :
    P6 w X Y wx.heap.size (wx.heap.size + 1) cs ds xs ys ms ns va vb vx vy n0 a b n1 c d x y hi ((wx.alloc (.cells ms T)).alloc (.cells ns T)) := by
  subst hh
  have hd := h.dis
  have h1 := h.bx.1
  have h2 := h.by'.1
  exact ⟨(h.P.alloc _).alloc _, (h.bx.alloc _).alloc _, (h.by'.alloc _).alloc _, (Blk.new wx ms T).alloc _, Blk.new' _ _ _ (World.size_alloc _ _).symm, (h.vx.al _).al _, (h.vy.al _).al _, by omega⟩
theorem P6.new2 {w : World} {X Y : Nat} {cs ds xs ys : Array Value} {va vb vx vy : Value} {n0 : Bool} {a b : List Nat} {n1 : Bool} {c d : List Nat} {x y : Q} {hi : Nat} {wx : World} {ms ns : Array Value} {T : TypeId} (h : P4 w X Y cs ds xs ys va vb vx vy n0 a b n1 c d x y wx) (hh : hi = wx.heap.size) :
    P6 w X Y (wx.heap.size + 1) wx.heap.size cs ds xs ys ms ns va vb vx vy n0 a b n1 c d x y hi ((wx.alloc (.cells ns T)).alloc (.cells ms T)) := by
  subst hh
  have hd := h.dis
  have h1 := h.bx.1
  have h2 := h.by'.1
  exact ⟨(h.P.alloc _).alloc _, (h.bx.alloc _).alloc _, (h.by'.alloc _).alloc _, Blk.new' _ _ _ (World.size_alloc _ _).symm, (Blk.new wx ns T).alloc _, (h.vx.al _).al _, (h.vy.al _).al _, by omega⟩

theorem all15 {a0 a1 a2 a3 a4 a5 a6 a7 a8 a9 a10 a11 b0 b1 b2 : Prop} (h : a0 ∧ a1 ∧ a2 ∧ a3 ∧ a4 ∧ a5 ∧ a6 ∧ a7 ∧ a8 ∧ a9 ∧ a10 ∧ a11) (g : b0 ∧ b1 ∧ b2) : a0 ∧ a1 ∧ a2 ∧ a3 ∧ a4 ∧ a5 ∧ a6 ∧ a7 ∧ a8 ∧ a9 ∧ a10 ∧ a11 ∧ b0 ∧ b1 ∧ b2 := by
  obtain ⟨h0, h1, h2, h3, h4, h5, h6, h7, h8, h9, h10, h11⟩ := h
  exact ⟨h0, h1, h2, h3, h4, h5, h6, h7, h8, h9, h10, h11, g⟩

end Go.Proofs.YtcbocdkpdedogaaDoor
