/- A row of integers that comes in is opened. -/
import Derived.Test.YtlhkjkhbgebgiaaV5
import Derived.Test.YtlhkjkhbgebgiaaGO
namespace Go.Proofs.Ytlhkjkhbgebgiaa
open Go.ChangeShapes Go.WideShapes Go.ChangeAt Go.RowKit Go.Proofs.Kit Go.Proofs.Nums

set_option maxRecDepth 100000 in
/-- An argument of type []int. -/
theorem ints_open {H : Type} {enc : TypeId × Value → H} {v : Value} {d : DataW H} {p : List MemPlace} {base : Nat} {W : World} (hv : Value.okWide Try.prog W .any base 22 v)
    (h : DataW.Trod enc Try.prog W 0 (fun _ => true) true 22 v d p) : ∃ l, IntsAt W v l := by
  obtain ⟨a, len, cap, rfl⟩ := okWide_slice Try.underlying22 hv
  obtain ⟨m, hm⟩ := h
  rcases open_ints Try.underlying22 Try.underlying3 (by kernel_rfl) hm with ⟨hcs, _⟩ | ⟨x, l, c, zs, hcs, _, hl, hmx, hz, _, hcell, hwz⟩
  · obtain ⟨rfl, rfl, rfl⟩ : a = none ∧ len = 0 ∧ cap = 0 := by
      have : Value.slice a len cap = .slice none 0 0 := List.head_eq_of_cons_eq hcs
      simpa using this
    exact ⟨[], RowAt.nil W⟩
  · obtain ⟨rfl, rfl, rfl⟩ : a = some x ∧ len = l ∧ cap = c := by
      have : Value.slice a len cap = .slice (some x) l c := List.head_eq_of_cons_eq hcs
      simpa using this
    have hz' : zs.length = cap := by simpa using hz
    refine ⟨zs.take len, some x, cap, ?_, ?_, ?_, ?_, ?_⟩
    · simp; omega
    · simp; omega
    · unfold maxLen at hmx; omega
    · simp
    · rintro q hq i u hu
      simp only [Option.some.injEq] at hq
      subst hq
      rw [List.getElem?_map] at hu
      by_cases hi : i < (zs.take len).length
      · rw [List.getElem?_eq_getElem hi] at hu
        simp only [Option.map_some, Option.some.injEq] at hu
        have hil : i < zs.length := by rw [List.length_take] at hi; omega
        rw [hcell i hil, ← hu]
        have e : zs.getD i 0 = zs[i] := by rw [List.getD_eq_getElem?_getD, List.getElem?_eq_getElem hil]; rfl
        rw [e, List.getElem_take]
      · rw [List.getElem?_eq_none (by omega)] at hu; simp at hu

end Go.Proofs.Ytlhkjkhbgebgiaa
