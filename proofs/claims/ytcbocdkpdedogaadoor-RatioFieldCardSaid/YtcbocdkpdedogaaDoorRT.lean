/- Contracts of the Ratios with their fields laid open; the states of the laws. -/
import Derived.Test.YtcbocdkpdedogaaDoorRS
import Derived.Test.YtcbocdkpdedogaaDoorM26
import Derived.Test.YtcbocdkpdedogaaDoorR19
namespace Go.Proofs.YtcbocdkpdedogaaDoor
open Go.RowKit Go.Proofs.Kit Go.Proofs.Nums

/-- A call that hands back a Ratio in normal form. -/
def GivesN (q : Q) (L : Nat) (w : World) (e : Ending) (w' : World) : Prop := ∃ p l k p' l' k', e = .returned (.agg #[.bool q.neg, .slice p l k, .slice p' l' k']) ∧ RatN w' (.agg #[.bool q.neg, .slice p l k, .slice p' l' k']) q L ∧ Below w.heap.size w w'
/-- A call that hands back a Ratio of the reference. -/
def GivesR (q : Q) (w : World) (e : Ending) (w' : World) : Prop := ∃ lo hi p l k p' l' k', e = .returned (.agg #[.bool q.neg, .slice p l k, .slice p' l' k']) ∧ RIn w' (.agg #[.bool q.neg, .slice p l k, .slice p' l' k']) q lo hi ∧ w.heap.size ≤ lo ∧ hi ≤ w'.heap.size ∧ Below w.heap.size w w'

theorem gn_of {P : Program} {f : FuncId} {args : Array Value} {w : World} {q : Q} {L : Nat} (h : Calls P f args w fun e w' => ∃ v, e = .returned v ∧ RatN w' v q L ∧ Below w.heap.size w w') : Calls P f args w (GivesN q L w) :=
  h.mono (by
    rintro e w' ⟨v, rfl, hv, hb⟩
    have hv2 := hv
    obtain ⟨p1, l1, k1, p2, l2, k2, rfl, _, _⟩ := hv.shape
    exact ⟨_, _, _, _, _, _, rfl, hv2, hb⟩)
theorem gr_of {P : Program} {f : FuncId} {args : Array Value} {w : World} {q : Q} (h : Calls P f args w fun e w' => ∃ v, e = .returned v ∧ RFr w' v q w.heap.size ∧ Below w.heap.size w w') : Calls P f args w (GivesR q w) :=
  h.mono (by
    rintro e w' ⟨v, rfl, hv, hb⟩
    have hv2 := RIn.of hv
    obtain ⟨p1, l1, k1, p2, l2, k2, rfl, _, _⟩ := hv.shape
    exact ⟨_, _, _, _, _, _, _, _, rfl, hv2, Nat.le_refl _, Nat.le_refl _, hb⟩)

theorem RIn.al {w : World} {v : Value} {q : Q} {lo hi : Nat} (h : RIn w v q lo hi) (o : Obj) : RIn (w.alloc o) v q lo hi := h.keep ((Below.refl _ _).alloc (Nat.le_refl _) _)
theorem RIn.drew {w : World} {v : Value} {q : Q} {lo hi : Nat} (h : RIn w v q lo hi) : RIn w.drew v q lo hi := h.keep (Below.refl _ _).drew
theorem RatAt.al {w : World} {v : Value} {q : Q} {L : Nat} (h : RatAt w v q L) (o : Obj) : RatAt (w.alloc o) v q L := h.keep ((Below.refl _ _).alloc (Nat.le_refl _) _)
theorem RatAt.drew {w : World} {v : Value} {q : Q} {L : Nat} (h : RatAt w v q L) : RatAt w.drew v q L := h.keep (Below.refl _ _).drew
theorem RatN.al {w : World} {v : Value} {q : Q} {L : Nat} (h : RatN w v q L) (o : Obj) : RatN (w.alloc o) v q L := h.keep ((Below.refl _ _).alloc (Nat.le_refl _) _)
theorem RatN.drew {w : World} {v : Value} {q : Q} {L : Nat} (h : RatN w v q L) : RatN w.drew v q L := h.keep (Below.refl _ _).drew
theorem bal {w0 w : World} (h : Below w0.heap.size w0 w) (o : Obj) : Below w0.heap.size w0 (w.alloc o) := h.alloc h.size o
theorem Blk.new' {b : Nat} (w : World) (cs : Array Value) (T : TypeId) (h : b = w.heap.size) : Blk b cs (w.alloc (.cells cs T)) := by subst h; exact Blk.new w cs T
theorem Blk.ltk {b : Nat} {cs : Array Value} {w w' : World} (h : Blk b cs w) (hb : Below w.heap.size w w') : b < w'.heap.size := Nat.lt_of_lt_of_le h.1 hb.size

theorem lim_lt {l : List Nat} {k : Nat} (h : Lim l) (hl : l.length ≤ k) : val l < 4294967296 ^ k := Nat.lt_of_lt_of_le (val_lt l h) (Nat.pow_le_pow_right (by omega) hl)
/-- A call that hands back a Ratio with these lists. -/
def GivesL (t : Bool) (a b : List Nat) (w : World) (e : Ending) (w' : World) : Prop := ∃ p l k p' l' k', e = .returned (.agg #[.bool t, .slice p l k, .slice p' l' k']) ∧ RatL w' (.agg #[.bool t, .slice p l k, .slice p' l' k']) t a b ∧ Below w.heap.size w w'
theorem RatL.shape {w : World} {v : Value} {t : Bool} {a b : List Nat} (h : RatL w v t a b) : ∃ p l k p' l' k', v = .agg #[.bool t, .slice p l k, .slice p' l' k'] := by
  obtain ⟨vn, vd, rfl, h1, h2⟩ := h
  obtain ⟨p1, l1, k1, rfl⟩ := h1.shp
  obtain ⟨p2, l2, k2, rfl⟩ := h2.shp
  exact ⟨_, _, _, _, _, _, rfl⟩
theorem gl_of {P : Program} {f : FuncId} {args : Array Value} {w : World} {t : Bool} {a b : List Nat} (h : Calls P f args w fun e w' => ∃ v, e = .returned v ∧ RatL w' v t a b ∧ Below w.heap.size w w') : Calls P f args w (GivesL t a b w) :=
  h.mono (by
    rintro e w' ⟨v, rfl, hv, hb⟩
    obtain ⟨p1, l1, k1, p2, l2, k2, rfl⟩ := hv.shape
    exact ⟨_, _, _, _, _, _, rfl, hv, hb⟩)
theorem RatL.al {w : World} {v : Value} {t : Bool} {a b : List Nat} (h : RatL w v t a b) (o : Obj) : RatL (w.alloc o) v t a b := h.keep ((Below.refl _ _).alloc (Nat.le_refl _) _)
theorem RatL.drew {w : World} {v : Value} {t : Bool} {a b : List Nat} (h : RatL w v t a b) : RatL w.drew v t a b := h.keep (Below.refl _ _).drew
theorem cells6 {a b : Nat} {x0 x1 x2 y0 y1 y2 : Value} {w : World} (h1 : Blk a #[x0, x1, x2] w) (h2 : Blk b #[y0, y1, y2] w) : w.cell? ⟨a, 0, none⟩ = some x0 ∧ w.cell? ⟨a, 1, none⟩ = some x1 ∧ w.cell? ⟨a, 2, none⟩ = some x2 ∧ w.cell? ⟨b, 0, none⟩ = some y0 ∧ w.cell? ⟨b, 1, none⟩ = some y1 ∧ w.cell? ⟨b, 2, none⟩ = some y2 :=
  ⟨h1.three.1, h1.three.2.1, h1.three.2.2, h2.three.1, h2.three.2.1, h2.three.2.2⟩
theorem eq_true {va vb : Value} {n L : Nat} {w : World} (ha : Nrm w va n L) (hb : Nrm w vb n L) (hL : L ≤ 1000) :
    Calls Tryd.prog 31 #[va, vb] w fun e w' => e = .returned (.bool true) ∧ Below w.heap.size w w' := by
  have := req_any _ _ _ _ _ ha.1 hb.1 (Nat.le_trans ha.len (by omega)) (Nat.le_trans hb.len (by omega))
  rw [eqN_self] at this
  exact this
theorem sz_norm {q : Q} {L : Nat} (h1 : q.n < 4294967296 ^ L) (h2 : q.d < 4294967296 ^ L) (hL : 1 ≤ L) (hL2 : L ≤ 100) : q.norm.Sz 10000 := by
  refine Q.mk'_sz (K := 10000) ?_ ?_ (by omega)
  · exact Nat.le_trans (bits_len_le _ (32 * L) (by rw [base_pow] at h1; exact h1)) (by omega)
  · exact Nat.le_trans (bits_len_le _ (32 * L) (by rw [base_pow] at h2; exact h2)) (by omega)
theorem norm_lt {q : Q} {L : Nat} (h1 : q.n < 4294967296 ^ L) (h2 : q.d < 4294967296 ^ L) (hL : 1 ≤ L) : q.norm.n < 4294967296 ^ L ∧ q.norm.d < 4294967296 ^ L := by
  unfold Q.norm Q.mk'
  split
  · exact ⟨Nat.pow_pos (by omega), Nat.lt_of_lt_of_le (by decide) (Nat.pow_le_pow_right (by omega) hL : 4294967296 ^ 1 ≤ _)⟩
  · exact ⟨Nat.lt_of_le_of_lt (Nat.div_le_self _ _) h1, Nat.lt_of_le_of_lt (Nat.div_le_self _ _) h2⟩

end Go.Proofs.YtcbocdkpdedogaaDoor
