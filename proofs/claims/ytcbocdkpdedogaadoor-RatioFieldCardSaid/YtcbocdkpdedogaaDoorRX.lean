/- The states of the law about three Ratios: three blocks, and further blocks one after the other. -/
import Derived.Test.YtcbocdkpdedogaaDoorRU
namespace Go.Proofs.YtcbocdkpdedogaaDoor
open Go.RowKit Go.Proofs.Kit Go.Proofs.Nums

/-- Three Ratios in three blocks. -/
structure P3 (w : World) (cs ds es : Array Value) (va vb vc : Value) (n0 : Bool) (a b : List Nat) (n1 : Bool) (c d : List Nat) (n2 : Bool) (f g : List Nat) (wx : World) : Prop where
  A : Blk w.heap.size cs wx
  B : Blk (w.heap.size + 1) ds wx
  C : Blk (w.heap.size + 2) es wx
  va : RatL wx va n0 a b
  vb : RatL wx vb n1 c d
  vc : RatL wx vc n2 f g
  below : Below w.heap.size w wx

/-- A state that new memory, and a store into a block from B on that holds no limb, leave as it is. -/
structure Ok (F : World → Prop) (B : Nat) : Prop where
  kp : ∀ wx w', F wx → Below wx.heap.size wx w' → F w'
  pt : ∀ wx X x y z, F wx → B ≤ X → NoLimb wx X → F (((wx.setCell ⟨X, 0, none⟩ x).setCell ⟨X, 1, none⟩ y).setCell ⟨X, 2, none⟩ z)
theorem Ok.al {F : World → Prop} {B : Nat} (h : Ok F B) {w : World} (o : Obj) (hF : F w) : F (w.alloc o) := h.kp _ _ hF ((Below.refl _ _).alloc (Nat.le_refl _) _)
theorem Ok.dr {F : World → Prop} {B : Nat} (h : Ok F B) {w : World} (hF : F w) : F w.drew := h.kp _ _ hF (Below.refl _ _).drew
theorem P3.ok (w : World) (cs ds es : Array Value) (va vb vc : Value) (n0 : Bool) (a b : List Nat) (n1 : Bool) (c d : List Nat) (n2 : Bool) (f g : List Nat) : Ok (P3 w cs ds es va vb vc n0 a b n1 c d n2 f g) (w.heap.size + 3) := by
  refine ⟨fun wx w' h hb => ⟨h.A.keep hb, h.B.keep hb, h.C.keep hb, h.va.keep hb, h.vb.keep hb, h.vc.keep hb, bel2' h.below hb⟩, fun wx X x y z h hX hn => ?_⟩
  exact ⟨h.A.put_other (by omega) _ _ _, h.B.put_other (by omega) _ _ _, h.C.put_other (by omega) _ _ _, h.va.put hn _ _ _, h.vb.put hn _ _ _, h.vc.put hn _ _ _, below_set3 h.below (by omega) _ _ _⟩
theorem P3.cells {w : World} {x0 x1 x2 y0 y1 y2 z0 z1 z2 : Value} {va vb vc : Value} {n0 : Bool} {a b : List Nat} {n1 : Bool} {c d : List Nat} {n2 : Bool} {f g : List Nat} {wx : World} (h : P3 w #[x0, x1, x2] #[y0, y1, y2] #[z0, z1, z2] va vb vc n0 a b n1 c d n2 f g wx) :
    wx.cell? ⟨w.heap.size, 0, none⟩ = some x0 ∧ wx.cell? ⟨w.heap.size, 1, none⟩ = some x1 ∧ wx.cell? ⟨w.heap.size, 2, none⟩ = some x2 ∧ wx.cell? ⟨w.heap.size + 1, 0, none⟩ = some y0 ∧ wx.cell? ⟨w.heap.size + 1, 1, none⟩ = some y1 ∧ wx.cell? ⟨w.heap.size + 1, 2, none⟩ = some y2 ∧ wx.cell? ⟨w.heap.size + 2, 0, none⟩ = some z0 ∧ wx.cell? ⟨w.heap.size + 2, 1, none⟩ = some z1 ∧ wx.cell? ⟨w.heap.size + 2, 2, none⟩ = some z2 :=
  ⟨h.A.three.1, h.A.three.2.1, h.A.three.2.2, h.B.three.1, h.B.three.2.1, h.B.three.2.2, h.C.three.1, h.C.three.2.1, h.C.three.2.2⟩

/-- .. and a further block with a Ratio in normal form. -/
structure Ext (F : World → Prop) (B X : Nat) (xs : Array Value) (v : Value) (q : Q) (L : Nat) (wx : World) : Prop where
  base : F wx
  blk : Blk X xs wx
  val : RatN wx v q L
  le : B ≤ X
theorem Ext.ok {F : World → Prop} {B : Nat} (h : Ok F B) (X : Nat) (xs : Array Value) (v : Value) (q : Q) (L : Nat) : Ok (Ext F B X xs v q L) (max B (X + 1)) :=
  ⟨fun wx w' g hb => ⟨h.kp _ _ g.base hb, g.blk.keep hb, g.val.keep hb, g.le⟩, fun wx Y x y z g hX hn => ⟨h.pt _ _ _ _ _ g.base (by omega) hn, g.blk.put_other (by omega) _ _ _, g.val.put hn _ _ _, g.le⟩⟩
theorem Ext.old {F : World → Prop} {B X L : Nat} {q : Q} {p : Option Addr} {l k : Nat} {p' : Option Addr} {l' k' : Nat} {w : World} (h : Ok F B) (hF : F w) (hX : Blk X #[.bool false, .slice none 0 0, .slice none 0 0] w) (hv : RatN w (.agg #[.bool q.neg, .slice p l k, .slice p' l' k']) q L) (hB : B ≤ X) :
    Ext F B X #[.bool q.neg, .slice p l k, .slice p' l' k'] (.agg #[.bool q.neg, .slice p l k, .slice p' l' k']) q L (((w.setCell ⟨X, 0, none⟩ (.bool q.neg)).setCell ⟨X, 1, none⟩ (.slice p l k)).setCell ⟨X, 2, none⟩ (.slice p' l' k')) :=
  ⟨h.pt _ _ _ _ _ hF hB hX.noLimb, hX.put_same _ _ _, hv.put hX.noLimb _ _ _, hB⟩
theorem Ext.new {F : World → Prop} {B L : Nat} {q : Q} {p : Option Addr} {l k : Nat} {p' : Option Addr} {l' k' : Nat} {w : World} {T : TypeId} (h : Ok F B) (hF : F w) (hv : RatN w (.agg #[.bool q.neg, .slice p l k, .slice p' l' k']) q L) (hB : B ≤ w.heap.size) :
    Ext F B w.heap.size #[.bool q.neg, .slice p l k, .slice p' l' k'] (.agg #[.bool q.neg, .slice p l k, .slice p' l' k']) q L (w.alloc (.cells #[.bool q.neg, .slice p l k, .slice p' l' k'] T)) :=
  ⟨h.al _ hF, Blk.new w _ _, hv.al _, hB⟩

def St3 (w : World) (n0 : Bool) (a b : List Nat) (n1 : Bool) (c d : List Nat) (n2 : Bool) (f g : List Nat) (wx : World) : Prop := ∃ p1 l1 k1 p2 l2 k2 p3 l3 k3 p4 l4 k4 p5 l5 k5 p6 l6 k6,
  P3 w #[.bool n0, .slice p1 l1 k1, .slice p2 l2 k2] #[.bool n1, .slice p3 l3 k3, .slice p4 l4 k4] #[.bool n2, .slice p5 l5 k5, .slice p6 l6 k6] (.agg #[.bool n0, .slice p1 l1 k1, .slice p2 l2 k2]) (.agg #[.bool n1, .slice p3 l3 k3, .slice p4 l4 k4]) (.agg #[.bool n2, .slice p5 l5 k5, .slice p6 l6 k6]) n0 a b n1 c d n2 f g wx
theorem St3.of {w wx : World} {t0 t1 t2 : Bool} {q1 : Option Addr} {r1 s1 : Nat} {q2 : Option Addr} {r2 s2 : Nat} {q3 : Option Addr} {r3 s3 : Nat} {q4 : Option Addr} {r4 s4 : Nat} {q5 : Option Addr} {r5 s5 : Nat} {q6 : Option Addr} {r6 s6 : Nat}
    {n0 : Bool} {a b : List Nat} {n1 : Bool} {c d : List Nat} {n2 : Bool} {f g : List Nat} {p1 : Option Addr} {l1 k1 : Nat} {p2 : Option Addr} {l2 k2 : Nat} {p3 : Option Addr} {l3 k3 : Nat} {p4 : Option Addr} {l4 k4 : Nat} {p5 : Option Addr} {l5 k5 : Nat} {p6 : Option Addr} {l6 k6 : Nat}
    (hA : Blk w.heap.size #[.bool t0, .slice q1 r1 s1, .slice q2 r2 s2] wx) (hB : Blk (w.heap.size + 1) #[.bool t1, .slice q3 r3 s3, .slice q4 r4 s4] wx) (hC : Blk (w.heap.size + 2) #[.bool t2, .slice q5 r5 s5, .slice q6 r6 s6] wx)
    (va : RatL wx (.agg #[.bool n0, .slice p1 l1 k1, .slice p2 l2 k2]) n0 a b) (vb : RatL wx (.agg #[.bool n1, .slice p3 l3 k3, .slice p4 l4 k4]) n1 c d) (vc : RatL wx (.agg #[.bool n2, .slice p5 l5 k5, .slice p6 l6 k6]) n2 f g) (hb : Below w.heap.size w wx) :
    St3 w n0 a b n1 c d n2 f g (((((((((wx.setCell ⟨w.heap.size, 0, none⟩ (.bool n0)).setCell ⟨w.heap.size, 1, none⟩ (.slice p1 l1 k1)).setCell ⟨w.heap.size, 2, none⟩ (.slice p2 l2 k2)).setCell ⟨w.heap.size + 1, 0, none⟩ (.bool n1)).setCell ⟨w.heap.size + 1, 1, none⟩ (.slice p3 l3 k3)).setCell ⟨w.heap.size + 1, 2, none⟩ (.slice p4 l4 k4)).setCell ⟨w.heap.size + 2, 0, none⟩ (.bool n2)).setCell ⟨w.heap.size + 2, 1, none⟩ (.slice p5 l5 k5)).setCell ⟨w.heap.size + 2, 2, none⟩ (.slice p6 l6 k6)) := by
  have nA := hA.noLimb
  have nB := hB.noLimb.put (b' := w.heap.size) (by omega) (.bool n0) (.slice p1 l1 k1) (.slice p2 l2 k2)
  have nC := (hC.noLimb.put (b' := w.heap.size) (by omega) (.bool n0) (.slice p1 l1 k1) (.slice p2 l2 k2)).put (b' := w.heap.size + 1) (by omega) (.bool n1) (.slice p3 l3 k3) (.slice p4 l4 k4)
  refine ⟨p1, l1, k1, p2, l2, k2, p3, l3, k3, p4, l4, k4, p5, l5, k5, p6, l6, k6, ?_, ?_, ?_, ?_, ?_, ?_, ?_⟩
  · exact ((hA.put_same _ _ _).put_other (by omega) _ _ _).put_other (by omega) _ _ _
  · exact ((hB.put_other (by omega) _ _ _).put_same _ _ _).put_other (by omega) _ _ _
  · exact ((hC.put_other (by omega) _ _ _).put_other (by omega) _ _ _).put_same _ _ _
  · exact ((va.put nA _ _ _).put nB _ _ _).put nC _ _ _
  · exact ((vb.put nA _ _ _).put nB _ _ _).put nC _ _ _
  · exact ((vc.put nA _ _ _).put nB _ _ _).put nC _ _ _
  · exact below_set3 (below_set3 (below_set3 hb (Nat.le_refl _) _ _ _) (by omega) _ _ _) (by omega) _ _ _

end Go.Proofs.YtcbocdkpdedogaaDoor
