/- A small kit, third part: slices that are read. Over any program. -/
import Derived.Test.YteobjelenfjifaaDoorK2
namespace Go.Proofs.Kit
open Go.RowKit

/-- v is a slice of cs.length elements of one cell each, whose cells are cs. -/
def RowAt (w : World) (v : Value) (cs : List Value) : Prop :=
  ∃ p cap, v = .slice p cs.length cap ∧ cs.length ≤ cap ∧ cap ≤ 9223372036854775807 ∧ (p = none → cap = 0) ∧ ∀ q, p = some q → ∀ i u, cs[i]? = some u → w.cell? (q.add i) = some u

theorem RowAt.nil (w : World) : RowAt w (.slice none 0 0) [] := ⟨none, 0, rfl, Nat.le_refl _, by omega, fun _ => rfl, fun _ h => by simp at h⟩

/-- Its shape. -/
theorem RowAt.cases {w : World} {v : Value} {cs : List Value} (h : RowAt w v cs) :
    (cs = [] ∧ ∃ p cap, v = .slice p 0 cap ∧ cap ≤ 9223372036854775807 ∧ (p = none → cap = 0)) ∨
    (0 < cs.length ∧ ∃ b off cap, v = .slice (some ⟨b, off, none⟩) cs.length cap ∧ cs.length ≤ cap ∧ cap ≤ 9223372036854775807 ∧ b < w.heap.size ∧ ∀ i u, cs[i]? = some u → w.cell? ⟨b, off + i, none⟩ = some u) := by
  obtain ⟨p, cap, rfl, h1, h2, h3, h4⟩ := h
  cases cs with
  | nil => exact .inl ⟨rfl, p, cap, rfl, h2, h3⟩
  | cons c cs =>
    right
    refine ⟨by simp, ?_⟩
    cases p with
    | none => have := h3 rfl; simp at h1; omega
    | some q =>
      obtain ⟨b, off, spot⟩ := q
      have hc := h4 _ rfl 0 c rfl
      have hspot : spot = none := by simpa [Addr.add] using World.cell?_spot hc
      subst hspot
      have hb := World.block_lt_of_cell? w _ hc
      rw [Addr.add_lit] at hb
      refine ⟨b, off, cap, rfl, h1, h2, hb, fun i u hi => ?_⟩
      have := h4 _ rfl i u hi
      rw [Addr.add_lit] at this
      exact this

theorem RowAt.mk {w : World} {b off cap : Nat} {cs : List Value} (h1 : cs.length ≤ cap) (h2 : cap ≤ 9223372036854775807) (h : ∀ i u, cs[i]? = some u → w.cell? ⟨b, off + i, none⟩ = some u) :
    RowAt w (.slice (some ⟨b, off, none⟩) cs.length cap) cs :=
  ⟨_, _, rfl, h1, h2, fun h => by simp at h, fun q hq i u hi => by obtain rfl := Option.some.inj hq; rw [Addr.add_lit]; exact h i u hi⟩

theorem RowAt.empty {w : World} {p : Option Addr} {cap : Nat} (h2 : cap ≤ 9223372036854775807) (h3 : p = none → cap = 0) : RowAt w (.slice p 0 cap) [] :=
  ⟨p, cap, rfl, Nat.zero_le _, h2, h3, fun q _ i u hi => by simp at hi⟩

/-- A row that reads, read later. -/
theorem RowAt.keep {w w' : World} {v : Value} {cs : List Value} (h : RowAt w v cs) (hb : Below w.heap.size w w') : RowAt w' v cs := by
  obtain ⟨p, cap, rfl, h1, h2, h3, h4⟩ := h
  refine ⟨p, cap, rfl, h1, h2, h3, fun q hq i u hi => ?_⟩
  have := h4 q hq i u hi
  exact (hb.cell (p := q.add i) (World.block_lt_of_cell? w _ this)).trans this

theorem RowAt.alloc {w : World} {v : Value} {cs : List Value} (h : RowAt w v cs) (o : Obj) : RowAt (w.alloc o) v cs :=
  h.keep ((Below.refl _ _).alloc (Nat.le_refl _) _)
theorem RowAt.on {w w' : World} {o : Obj} {v : Value} {cs : List Value} (h : RowAt w v cs) (hb : Below (w.alloc o).heap.size (w.alloc o) w') : RowAt w' v cs := (h.alloc o).keep hb
theorem RowAt.drewN {w : World} {v : Value} {cs : List Value} (h : RowAt w v cs) (n : Nat) : RowAt (w.drewN n) v cs := h.keep (below_drewN (Below.refl _ _) n)

/-- What the call owns reads. -/
theorem RowAt.owned {w : World} {base : Nat} {e : TypeId} {v : Value} {n : Nat} {cs : List Value} (h : w.ownsRow base e 1 v n cs) : RowAt w v cs := by
  have hl := h.1
  rw [Nat.mul_one] at hl
  rcases h.2 with ⟨rfl, rfl⟩ | ⟨g, cap, cur, rfl, _, _, hc, hm, _⟩
  · have : cs = [] := List.eq_nil_of_length_eq_zero hl
    subst this; exact RowAt.nil w
  · rw [← hl]
    refine RowAt.mk (by omega) (by unfold maxLen at hm; omega) fun i u hi => ?_
    have hi' := (List.getElem?_eq_some_iff.1 hi).1
    rw [Nat.zero_add, h.cellAt i (by omega), hi]

/-- A beginning of a row. -/
theorem RowAt.take {w : World} {b off cap n : Nat} {cs : List Value} (h : RowAt w (.slice (some ⟨b, off, none⟩) n cap) cs) (k : Nat) (hk : k ≤ cs.length) :
    RowAt w (.slice (some ⟨b, off, none⟩) k cap) (cs.take k) := by
  obtain ⟨p, cap', hv, h1, h2, h3, h4⟩ := h
  simp only [Value.slice.injEq] at hv
  obtain ⟨rfl, rfl, rfl⟩ := hv
  have hl : (cs.take k).length = k := by rw [List.length_take]; omega
  refine ⟨_, _, by rw [hl], by omega, h2, fun h => by simp at h, fun q hq i u hi => ?_⟩
  rw [List.getElem?_take] at hi
  split at hi
  · exact h4 q hq i u hi
  · simp at hi

theorem below_new {w w' : World} {o : Obj} (hb : Below w.heap.size (w.alloc o) w') : Below w.heap.size w w' :=
  ((Below.refl _ _).alloc (Nat.le_refl _) _).trans hb

/-- make([]T, L), L whatever. -/
theorem make_any {P : Program} {t e : TypeId} {z : Value} {size bytes : Nat} (E : ElemRow P t e z size bytes)
    {ops : Array Oper} {rest : List Oper} {o : Oper} {a : Act} {Q : Exit → Act → World → Prop} {w : World} (hg : o.guard = none) {l c : Operand} (hop : o.op = Op.makeSlice t l c)
    {kl kc : IntKind} {L : Int} (hl : a.eval l = .int kl L) (hc : a.eval c = .int kc L) (h0 : 0 ≤ L) (hb : (bytes : Int) * L ≤ 281474976710656) (h63 : L ≤ 9223372036854775807)
    (hK : ∀ w', w'.ownsRow w.heap.size e size (.slice (some ⟨w.heap.size, 0, none⟩) L.toNat L.toNat) L.toNat (madeCells z.cells (L.toNat * size)).toList → Below w.heap.size w w' → wpList P ops Q rest (a.put o.dst (.slice (some ⟨w.heap.size, 0, none⟩) L.toNat L.toNat)) w') :
    wpList P ops Q (o :: rest) a w := by
  obtain ⟨i, hi, hz0, hz1, hz2⟩ := info_parts E.hi
  have hL : L = (L.toNat : Int) := by omega
  refine wpList_make_full w hg l c t hop w.heap.size e i z size E.ht hi hz0 hz1 kl kc L L L.toNat hl hc hL hL ?_ (by unfold maxLen; omega) (Nat.le_refl _) ?_
  · rw [hz2]
    have : ((bytes * L.toNat : Nat) : Int) ≤ 281474976710656 := by rw [Int.natCast_mul, ← hL]; exact hb
    omega
  · intro w' h1 h2
    exact hK w' h1 ((Below.refl _ _).grown h2 (Nat.le_refl _) (fun k hk => by simp at hk))

end Go.Proofs.Kit
