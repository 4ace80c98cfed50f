/- The meter in memory: New, Step, Seen, Value, Best, Proven. -/
import Derived.Test.YtlhkjkhbgebgiaaV0
import Derived.Test.YtlhkjkhbgebgiaaR8
namespace Go.Proofs.Ytlhkjkhbgebgiaa
open Go.RowKit Go.Proofs.Kit Go.Proofs.Nums

theorem Blk.put1 {b : Nat} {cs : Array Value} {w : World} (h : Blk b cs w) {o : Nat} (ho : o < cs.size) (v : Value) : Blk b (cs.set o v ho) (w.setCell ⟨b, o, none⟩ v) := by
  refine ⟨by simpa [World.size_setCell] using h.1, fun p => ?_, fun p => ?_⟩
  · by_cases hp : o = p
    · subst hp
      rw [cell_same (u := cs[o]) (by rw [h.2.1]; exact Array.getElem?_eq_getElem ho)]
      simp
    · rw [cell_other hp, h.2.1, Array.getElem?_set_ne ho hp]
  · rw [World.frozen?_setCell]; exact h.2.2 p

/-- The cells of a meter. -/
def mcs (s : Mt) : Array Value := #[.int .i64 s.n, .int .i64 s.mg, .int .i64 s.u, .int .i64 s.seen, .int .i64 s.room, .int .i64 s.val, .int .i64 s.best, .bool s.pr]
/-- A meter lies in block H. -/
def MeterAt (w : World) (H : Nat) (s : Mt) : Prop := Blk H #[.int .i64 s.n, .int .i64 s.mg, .int .i64 s.u, .int .i64 s.seen, .int .i64 s.room, .int .i64 s.val, .int .i64 s.best, .bool s.pr] w
/-- Only block H was written. -/
structure OnlyH (H : Nat) (w w' : World) : Prop where
  heap : ∀ k, k ≠ H → w'.heap[k]? = w.heap[k]?
  below : Below H w w'

theorem Blk.eight {b : Nat} {x0 x1 x2 x3 x4 x5 x6 x7 : Value} {w : World} (h : Blk b #[x0, x1, x2, x3, x4, x5, x6, x7] w) :
    w.cell? ⟨b, 0, none⟩ = some x0 ∧ w.cell? ⟨b, 1, none⟩ = some x1 ∧ w.cell? ⟨b, 2, none⟩ = some x2 ∧ w.cell? ⟨b, 3, none⟩ = some x3 ∧ w.cell? ⟨b, 4, none⟩ = some x4 ∧ w.cell? ⟨b, 5, none⟩ = some x5 ∧ w.cell? ⟨b, 6, none⟩ = some x6 ∧ w.cell? ⟨b, 7, none⟩ = some x7 :=
  ⟨h.2.1 0, h.2.1 1, h.2.1 2, h.2.1 3, h.2.1 4, h.2.1 5, h.2.1 6, h.2.1 7⟩
theorem Blk.free8 {b : Nat} {cs : Array Value} {w : World} (h : Blk b cs w) : w.frozen? ⟨b, 3, none⟩ = false ∧ w.frozen? ⟨b, 4, none⟩ = false ∧ w.frozen? ⟨b, 5, none⟩ = false ∧ w.frozen? ⟨b, 6, none⟩ = false ∧ w.frozen? ⟨b, 7, none⟩ = false :=
  ⟨h.2.2 3, h.2.2 4, h.2.2 5, h.2.2 6, h.2.2 7⟩

theorem OnlyH.refl (H : Nat) (w : World) : OnlyH H w w := ⟨fun _ _ => rfl, Below.refl _ _⟩
theorem OnlyH.set {H : Nat} {w w' : World} (h : OnlyH H w w') (o : Nat) (v : Value) : OnlyH H w (w'.setCell ⟨H, o, none⟩ v) :=
  ⟨fun k hk => by rw [Below.heap_setCell _ ⟨H, o, none⟩ v k hk]; exact h.heap k hk, h.below.setCell (Nat.le_refl _) v⟩
theorem OnlyH.drew {H : Nat} {w w' : World} (h : OnlyH H w w') : OnlyH H w w'.drew := ⟨h.heap, h.below.drew⟩

theorem Blk.p3 {b : Nat} {x0 x1 x2 x3 x4 x5 x6 x7 : Value} {w : World} (h : Blk b #[x0, x1, x2, x3, x4, x5, x6, x7] w) (v : Value) : Blk b #[x0, x1, x2, v, x4, x5, x6, x7] (w.setCell ⟨b, 3, none⟩ v) := h.put1 (o := 3) (by simp) v
theorem Blk.p4 {b : Nat} {x0 x1 x2 x3 x4 x5 x6 x7 : Value} {w : World} (h : Blk b #[x0, x1, x2, x3, x4, x5, x6, x7] w) (v : Value) : Blk b #[x0, x1, x2, x3, v, x5, x6, x7] (w.setCell ⟨b, 4, none⟩ v) := h.put1 (o := 4) (by simp) v
theorem Blk.p5 {b : Nat} {x0 x1 x2 x3 x4 x5 x6 x7 : Value} {w : World} (h : Blk b #[x0, x1, x2, x3, x4, x5, x6, x7] w) (v : Value) : Blk b #[x0, x1, x2, x3, x4, v, x6, x7] (w.setCell ⟨b, 5, none⟩ v) := h.put1 (o := 5) (by simp) v
theorem Blk.p6 {b : Nat} {x0 x1 x2 x3 x4 x5 x6 x7 : Value} {w : World} (h : Blk b #[x0, x1, x2, x3, x4, x5, x6, x7] w) (v : Value) : Blk b #[x0, x1, x2, x3, x4, x5, v, x7] (w.setCell ⟨b, 6, none⟩ v) := h.put1 (o := 6) (by simp) v
theorem Blk.p7 {b : Nat} {x0 x1 x2 x3 x4 x5 x6 x7 : Value} {w : World} (h : Blk b #[x0, x1, x2, x3, x4, x5, x6, x7] w) (v : Value) : Blk b #[x0, x1, x2, x3, x4, x5, x6, v] (w.setCell ⟨b, 7, none⟩ v) := h.put1 (o := 7) (by simp) v

end Go.Proofs.Ytlhkjkhbgebgiaa
