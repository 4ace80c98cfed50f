/- A small kit, fifth part: an append of whatever row is read. Over any program. -/
import Derived.Test.YteobjelenfjifaaDoorK4
namespace Go.Proofs.Kit
open Go.RowKit

theorem append_read {P : Program} {t e : TypeId} {z : Value} {bytes : Nat} (E : ElemRow P t e z 1 bytes)
    {ops : Array Oper} {rest : List Oper} {o : Oper} {a : Act} {Q : Exit → Act → World → Prop} {w : World} (hgd : Region.wanted o (yielded ops a.tmps) = true) {s x : Operand}
    (ho : o.op = .call { callee := .builtin .append, args := #[s, x], argTypes := #[t, t] })
    {base : Nat} {v : Value} {n : Nat} {xs : List Value} (hown : w.ownsRow base e 1 v n xs)
    (hs : a.eval s = v) {xv : Value} {cs : List Value} (hr : RowAt w xv cs) (hx : a.eval x = xv)
    (h1 : ∀ u ∈ cs, u.oneCell' = true) (hn : (n + cs.length) * bytes ≤ 140737488355328) (hn' : n + cs.length ≤ 9223372036854775807) (hbase : base ≤ w.heap.size)
    (h : ∀ v' w', w'.ownsRow base e 1 v' (n + cs.length) (xs ++ cs) → Below base w w' → wpList P ops Q rest (a.put o.dst v') w') :
    wpList P ops Q (o :: rest) a w := by
  obtain ⟨p, cap, rfl, c1, c2, c3, c4⟩ := hr
  cases p with
  | none =>
    have hc := c3 rfl
    subst hc
    have hl : cs = [] := List.eq_nil_of_length_eq_zero (by omega)
    subst hl
    refine append_nil E hgd ho hown hs hx ?_
    exact h v w (by simpa using hown) (Below.refl _ _)
  | some q =>
    exact append_row E hgd ho hown hs hx (by rw [Nat.mul_one]) (c4 q rfl) h1 hn hn' hbase (fun v' w' h2 _ h3 => h v' w' h2 h3)

end Go.Proofs.Kit
