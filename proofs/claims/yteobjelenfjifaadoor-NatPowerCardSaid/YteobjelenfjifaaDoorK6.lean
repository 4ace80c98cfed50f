/- A small kit, sixth part: make with room, no length. Over any program. -/
import Derived.Test.YteobjelenfjifaaDoorK5
namespace Go.Proofs.Kit
open Go.RowKit

/-- make([]T, 0, C). -/
theorem make_room {P : Program} {t e : TypeId} {z : Value} {size bytes : Nat} (E : ElemRow P t e z size bytes)
    {ops : Array Oper} {rest : List Oper} {o : Oper} {a : Act} {Q : Exit → Act → World → Prop} {w : World} (hg : o.guard = none) {l c : Operand} (hop : o.op = Op.makeSlice t l c)
    {kl kc : IntKind} {C : Int} (hl : a.eval l = .int kl 0) (hc : a.eval c = .int kc C) (h0 : 0 ≤ C) (hb : (bytes : Int) * C ≤ 281474976710656) (h63 : C ≤ 9223372036854775807)
    (hK : ∀ w', w'.ownsRow w.heap.size e size (.slice (some ⟨w.heap.size, 0, none⟩) 0 C.toNat) 0 [] → Below w.heap.size w w' → wpList P ops Q rest (a.put o.dst (.slice (some ⟨w.heap.size, 0, none⟩) 0 C.toNat)) w') :
    wpList P ops Q (o :: rest) a w := by
  obtain ⟨i, hi, hz0, hz1, hz2⟩ := info_parts E.hi
  have hC : C = (C.toNat : Int) := by omega
  refine wpList_make_own w hg l c t hop w.heap.size e i z size E.ht hi hz0 hz1 kl kc C C.toNat hl hc hC ?_ (by unfold maxLen; omega) (Nat.le_refl _) ?_
  · rw [hz2]
    have : ((bytes * C.toNat : Nat) : Int) ≤ 281474976710656 := by rw [Int.natCast_mul, ← hC]; exact hb
    omega
  · intro w' h1 h2
    exact hK w' h1 ((Below.refl _ _).grown h2 (Nat.le_refl _) (fun k hk => by simp at hk))

end Go.Proofs.Kit
