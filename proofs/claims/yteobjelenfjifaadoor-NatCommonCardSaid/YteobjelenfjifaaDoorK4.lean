/- A small kit, fourth part: where an append's row lies. Over any program. -/
import Derived.Test.YteobjelenfjifaaDoorK3
import Derived.Maps.AppendAt
namespace Go.Proofs.Kit
open Go.RowKit

theorem RowAt.same {w w' : World} {v : Value} {cs : List Value} (h : RowAt w v cs) (hh : ∀ b, v.ownBlock = some b → w'.heap[b]? = w.heap[b]?) : RowAt w' v cs := by
  obtain ⟨p, cap, rfl, h1, h2, h3, h4⟩ := h
  refine ⟨p, cap, rfl, h1, h2, h3, fun q hq i u hi => ?_⟩
  have e : (q.add i).block = q.block := by
    cases q
    first | rfl | (unfold Addr.add; split <;> rfl)
  have := hh q.block (by subst hq; rfl)
  rw [← e] at this
  rw [World.cell?_of_block (w := w) (a := q.add i) this]; exact h4 q hq i u hi

/-- append(s, x), x one element just laid in a new block. -/
theorem append_fresh {P : Program} {t e : TypeId} {z : Value} {size bytes : Nat} (E : ElemRow P t e z size bytes)
    {ops : Array Oper} {rest : List Oper} {o : Oper} {a : Act} {Q : Exit → Act → World → Prop} (hgd : o.guard = none) {s x : Operand}
    (ho : o.op = .call { callee := .builtin .append, args := #[s, x], argTypes := #[t, t] })
    {w : World} {cs : Array Value} {e' : TypeId} {fz : Nat × Nat} {base : Nat} {v : Value} {n : Nat} {xs : List Value} (hown : w.ownsRow base e size v n xs)
    (hs : a.eval s = v) (hx : a.eval x = .slice (some ⟨w.heap.size, 0, none⟩) 1 1)
    (hl : cs.size = size) (h1 : ∀ u ∈ cs.toList, u.oneCell' = true) (hn : (n + 1) * bytes ≤ 140737488355328) (hn' : n + 1 ≤ 9223372036854775807) (hbase : base ≤ w.heap.size)
    (h : ∀ v' w', w'.ownsRow base e size v' (n + 1) (xs ++ cs.toList) → w.grownBy w' v.ownBlock → Below base w w' → v' ≠ .slice none 0 0 → (v'.ownBlock = v.ownBlock ∨ ∃ g, v'.ownBlock = some g ∧ w.heap.size ≤ g) → wpList P ops Q rest (a.put o.dst v') w') :
    wpList P ops Q (o :: rest) a (w.alloc (.cells cs e' fz)) := by
  obtain ⟨i, hi, hz0, hz1, hz2⟩ := info_parts E.hi
  refine wpList_append_own_at _ hgd s x t ho base e i z size bytes E.ht hi hz0 hz1 hz2 E.hzs E.hsz v n xs hs (hown.alloc _) ⟨w.heap.size, 0, none⟩ 1 1 cs.toList hx
    (by rw [Array.length_toList, hl, Nat.one_mul]) (fun j u hj => alloc_cell w cs e' fz j u hj) h1 (by unfold maxLen; omega) hn (by simp; omega) ?_
  intro v' w' hown' hg hnil hfr
  have hg2 : w.grownBy w' v.ownBlock :=
    ⟨hg.os, hg.tape, hg.output, Nat.le_trans (by simp) hg.size, fun k hk hne => (hg.block k (by simp; omega) hne).trans (Below.heap_alloc w _ k hk)⟩
  refine h v' w' hown' hg2 ?_ ?_ ?_
  · refine (Below.refl base w).grown hg2 hbase fun k hk => ?_
    exact (hown.lt k hk).1
  · intro he; have := hnil.1 he; omega
  · rcases hfr with h1 | h1
    · exact .inl h1
    · exact .inr ⟨_, h1, by simp⟩

end Go.Proofs.Kit
