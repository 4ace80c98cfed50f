import Derived.Test.YtlhkjkhbgebgiaaMV
import Derived.Test.YtlhkjkhbgebgiaaMR
namespace Go.Proofs.Ytlhkjkhbgebgiaa
open Go.RowKit Go.Proofs.Kit Go.Proofs.Nums

/-- v is a Ratio with these fields. -/
def RatAt (w : World) (v : Value) (q : Q) (L : Nat) : Prop := ∃ vn vd, v = .agg #[.bool q.neg, vn, vd] ∧ Num w vn q.n L ∧ Num w vd q.d L
/-- .. whose numbers are in normal form. -/
def RatN (w : World) (v : Value) (q : Q) (L : Nat) : Prop := ∃ vn vd, v = .agg #[.bool q.neg, vn, vd] ∧ Nrm w vn q.n L ∧ Nrm w vd q.d L

theorem Num.shape {w : World} {v : Value} {n L : Nat} (h : Num w v n L) : ∃ p l c, v = .slice p l c := by
  obtain ⟨l, h1, _, _⟩ := h
  obtain ⟨p, c, h2⟩ := h1.shape
  exact ⟨p, _, c, h2⟩
theorem Nrm.shape {w : World} {v : Value} {n L : Nat} (h : Nrm w v n L) : ∃ p l c, v = .slice p l c := h.num.shape

theorem RatAt.keep {w w' : World} {v : Value} {q : Q} {L : Nat} (h : RatAt w v q L) (hb : Below w.heap.size w w') : RatAt w' v q L := by
  obtain ⟨vn, vd, h1, h2, h3⟩ := h; exact ⟨vn, vd, h1, h2.keep hb, h3.keep hb⟩
theorem RatN.keep {w w' : World} {v : Value} {q : Q} {L : Nat} (h : RatN w v q L) (hb : Below w.heap.size w w') : RatN w' v q L := by
  obtain ⟨vn, vd, h1, h2, h3⟩ := h; exact ⟨vn, vd, h1, h2.keep hb, h3.keep hb⟩
theorem RatN.at {w : World} {v : Value} {q : Q} {L : Nat} (h : RatN w v q L) : RatAt w v q L := by
  obtain ⟨vn, vd, h1, h2, h3⟩ := h; exact ⟨vn, vd, h1, h2.num, h3.num⟩

/-- The cells of a block just laid, behind a call. -/
theorem new_cell {w w1 : World} {cs : Array Value} {T : TypeId} (hb : Below (w.alloc (.cells cs T)).heap.size (w.alloc (.cells cs T)) w1) (off : Nat) : w1.cell? ⟨w.heap.size, off, none⟩ = cs[off]? := by
  rw [hb.cell (p := ⟨w.heap.size, off, none⟩) (by simp), cell_alloc_new]
theorem new_free {w w1 : World} {cs : Array Value} {T : TypeId} (hb : Below (w.alloc (.cells cs T)).heap.size (w.alloc (.cells cs T)) w1) (off : Nat) : w1.frozen? ⟨w.heap.size, off, none⟩ = false := by
  rw [hb.frozen (p := ⟨w.heap.size, off, none⟩) (by simp)]
  have h := heap_alloc_new w (.cells cs T)
  unfold World.frozen?
  rw [h]
  simp

/-- No cell of block b is a limb. -/
def NoLimb (w : World) (b : Nat) : Prop := ∀ o x, w.cell? ⟨b, o, none⟩ ≠ some (.int .u32 x)

/-- What is read does not lie in a block that holds no limb. -/
theorem NatAt.off {w w' : World} {v : Value} {l : List Nat} {b : Nat} (h : NatAt w v l) (hh : ∀ k, k ≠ b → w'.heap[k]? = w.heap[k]?) (hn : NoLimb w b) : NatAt w' v l := by
  rcases h.cases with ⟨rfl, p, cap, rfl, h2, h3⟩ | ⟨h1, b1, off, cap, rfl, _, _, _, hc⟩
  · exact ⟨RowAt.empty h2 h3, Lim.nil⟩
  · refine NatAtSame h fun k hk => hh k ?_
    simp [Value.ownBlock] at hk
    subst hk
    intro e
    subst e
    exact hn _ _ (hc 0 h1)
theorem Num.off {w w' : World} {v : Value} {n L b : Nat} (h : Num w v n L) (hh : ∀ k, k ≠ b → w'.heap[k]? = w.heap[k]?) (hn : NoLimb w b) : Num w' v n L := by
  obtain ⟨l, h1, h2, h3⟩ := h; exact ⟨l, h1.off hh hn, h2, h3⟩
theorem Nrm.off {w w' : World} {v : Value} {n L b : Nat} (h : Nrm w v n L) (hh : ∀ k, k ≠ b → w'.heap[k]? = w.heap[k]?) (hn : NoLimb w b) : Nrm w' v n L := ⟨h.1.off hh hn, h.2⟩

/-- Three cells are written. -/
theorem heap_set3 (w : World) (b : Nat) (x y z : Value) (k : Nat) (h : k ≠ b) : (((w.setCell ⟨b, 0, none⟩ x).setCell ⟨b, 1, none⟩ y).setCell ⟨b, 2, none⟩ z).heap[k]? = w.heap[k]? := by
  rw [Below.heap_setCell _ ⟨b, 2, none⟩ z k h, Below.heap_setCell _ ⟨b, 1, none⟩ y k h, Below.heap_setCell _ ⟨b, 0, none⟩ x k h]
theorem below_set3 {B : Nat} {w0 w : World} (hb : Below B w0 w) {b : Nat} (h : B ≤ b) (x y z : Value) : Below B w0 (((w.setCell ⟨b, 0, none⟩ x).setCell ⟨b, 1, none⟩ y).setCell ⟨b, 2, none⟩ z) :=
  ((hb.setCell h x).setCell h y).setCell h z

/-- A block just laid that holds no limb, behind a call. -/
theorem noLimb_new {w w1 : World} {cs : Array Value} {T : TypeId} (hb : Below (w.alloc (.cells cs T)).heap.size (w.alloc (.cells cs T)) w1) (h : ∀ (o : Nat) (x : Int), cs[o]? ≠ some (Value.int .u32 x)) : NoLimb w1 w.heap.size := fun o x => by
  rw [new_cell hb]; exact h o x
theorem noLimb3 {a b c : Value} (ha : ∀ x, a ≠ Value.int .u32 x) (hb : ∀ x, b ≠ Value.int .u32 x) (hc : ∀ x, c ≠ Value.int .u32 x) : ∀ (o : Nat) (x : Int), (#[a, b, c] : Array Value)[o]? ≠ some (Value.int .u32 x) := by
  intro o x
  match o with
  | 0 => simpa using ha x
  | 1 => simpa using hb x
  | 2 => simpa using hc x
  | o + 3 => simp

theorem nrm_nil' (w : World) (L : Nat) : Nrm w (.slice none 0 0) 0 L := ⟨NatAt.nil w, Nat.pow_pos (by omega)⟩

set_option maxHeartbeats 1000000 in
theorem zero_any (w : World) (L : Nat) (hL : 2 ≤ L) :
    Calls Try.prog 57 #[] w fun e w' => ∃ v, e = .returned v ∧ RatN w' v ⟨false, 0, 1⟩ L ∧ Below w.heap.size w w' := by
  have OF : Hid (∀ w, Calls Try.prog 31 #[.int .u64 1] w fun e w' => ∃ v', e = .returned v' ∧ Nrm w' v' 1 L ∧ Below w.heap.size w w') := Lib.hid (fun w => nrm_of (n := 1) (by omega) hL)
  go_enter Try.func57, Try.ntmps57
  go_wp2_with (go_at_call 31; ((with_reducible refine (OF.out _).mono ?_); rintro e w1 ⟨v1, rfl, hv1, hb1⟩; obtain ⟨p1, c1', rfl⟩ := hv1.1.shape; have c0 := new_cell hb1 0; have c1 := new_cell hb1 1; have c2 := new_cell hb1 2; have f0 := new_free hb1 0; have f1 := new_free hb1 1; have f2 := new_free hb1 2; simp at c0 c1 c2))
  have HN := Lib.hid (noLimb_new hb1 (noLimb3 (by simp) (by simp) (by simp)))
  refine bodyPost_ret (v := .agg #[.bool false, .slice none 0 0, .slice p1 (limbs 1).length c1']) (by simp [results, Try.results57, go_sem, c0, c1, c2]) rfl ?_
  exact ⟨_, rfl, ⟨_, _, rfl, (nrm_nil' _ _).off (heap_set3 _ _ _ _ _) HN.out, hv1.off (heap_set3 _ _ _ _ _) HN.out⟩, below_set3 (below_on hb1) (Nat.le_refl _) _ _ _⟩

end Go.Proofs.Ytlhkjkhbgebgiaa
