import Derived.Test.YtcjgilfbcoadjaaLf
import Derived.ProofKit
import Derived.OpenShut
namespace Go.Proofs.Ytcjgilfbcoadjaa
open Go.ChangeShapes Go.WideShapes Go.ChangeAt Go.RowKit Go.Proofs.Kit Go.Joins

theorem walk_LexBlanksRaw {H : Type} {enc : TypeId × Value → H} {v : Value} {d : DataW H} {p : List MemPlace} {base : Nat} {W : World} (hv : Value.okWide Try.prog W .any base 34 v)
    (h : DataW.Trod enc Try.prog W 0 (fun _ => true) true 34 v d p) (W0 : World) (hW : W0 = W) :
    Calls Try.prog 5 #[v] W0 fun e w' => e = .returned (.bool true) ∧ Below W0.heap.size W0 w' := by
  subst hW
  obtain ⟨c0, c1, c2, c3, y0, y1, y2, y3, m, rfl, rfl, rfl, hy0, hy1, hy2, hy3⟩ := open_agg4 Try.underlying34 (by kernel_rfl) (by kernel_rfl) hv h
  obtain ⟨s0, e0, _, w0⟩ := DataW.trod_string Try.underlying9 hy0
  obtain ⟨s1, e1, _, w1⟩ := DataW.trod_string Try.underlying9 hy1
  obtain ⟨s2, e2, _, w2⟩ := DataW.trod_string Try.underlying9 hy2
  simp at e0 e1 e2
  subst e0 e1 e2
  rcases open_ints Try.underlying32 Try.underlying5 (by kernel_rfl) hy3 with ⟨hcs, _⟩ | ⟨x, l, c, zs, hcs, _, hl, hm, hz, _, hcell, hwz⟩
  · simp at hcs
    subst hcs
    exact walk_LexBlanks s0 s1 s2 w0 w1 w2 none 0 0 [] W0 (.inl ⟨rfl, rfl, rfl, rfl⟩)
  · simp at hcs
    subst hcs
    exact walk_LexBlanks s0 s1 s2 w0 w1 w2 (some x) l c zs W0 (.inr ⟨x, rfl, hl, hm, by simpa using hz, hcell, hwz⟩)

end Go.Proofs.Ytcjgilfbcoadjaa
