/- A row of integers and a list of such rows that come in are opened. -/
import Derived.Test.YthplbhgbgcfogaaT16
import Derived.Test.YthplbhgbgcfogaaGO
import Derived.Deep.Slices
import Derived.Lib.SmallJoins
namespace Go.Proofs.Ythplbhgbgcfogaa
open Go.ChangeShapes Go.WideShapes Go.ChangeAt Go.RowKit Go.Proofs.Kit Go.Proofs.Nums

set_option maxRecDepth 100000 in
theorem ints_cell {H : Type} {enc : TypeId × Value → H} {v : Value} {W : World} {n : Nat} {y : DataW H × List MemPlace} (hm : DataW.trod enc Try.prog W 0 (fun _ => true) true n 23 [v] = some y) : ∃ l, IntsAt W v l := by
  obtain ⟨a, len, cap, hs⟩ := Joins.slice_form Try.underlying23 hm
  obtain rfl : v = .slice a len cap := List.head_eq_of_cons_eq hs
  rcases open_ints Try.underlying23 Try.underlying3 (by kernel_rfl) hm with ⟨hcs, _⟩ | ⟨x, l, c, zs, hcs, _, hl, hmx, hz, _, hcell, hwz⟩
  · obtain ⟨rfl, rfl, rfl⟩ : a = none ∧ len = 0 ∧ cap = 0 := by
      have : Value.slice a len cap = .slice none 0 0 := List.head_eq_of_cons_eq hcs
      simpa using this
    exact ⟨[], RowAt.nil W⟩
  · obtain ⟨rfl, rfl, rfl⟩ : a = some x ∧ len = l ∧ cap = c := by
      have : Value.slice a len cap = .slice (some x) l c := List.head_eq_of_cons_eq hcs
      simpa using this
    have hz' : zs.length = cap := by simpa using hz
    refine ⟨zs.take len, some x, cap, ?_, ?_, ?_, ?_, ?_⟩
    · simp; omega
    · simp; omega
    · unfold maxLen at hmx; omega
    · simp
    · rintro q hq i u hu
      simp only [Option.some.injEq] at hq
      subst hq
      rw [List.getElem?_map] at hu
      by_cases hi : i < (zs.take len).length
      · rw [List.getElem?_eq_getElem hi] at hu
        simp only [Option.map_some, Option.some.injEq] at hu
        have hil : i < zs.length := by rw [List.length_take] at hi; omega
        rw [hcell i hil, ← hu]
        have e : zs.getD i 0 = zs[i] := by rw [List.getD_eq_getElem?_getD, List.getElem?_eq_getElem hil]; rfl
        rw [e, List.getElem_take]
      · rw [List.getElem?_eq_none (by omega)] at hu; simp at hu
set_option maxRecDepth 100000 in
/-- An argument of type []int. -/
theorem ints_open {H : Type} {enc : TypeId × Value → H} {v : Value} {d : DataW H} {p : List MemPlace} {base : Nat} {W : World} (hv : Value.okWide Try.prog W .any base 23 v)
    (h : DataW.Trod enc Try.prog W 0 (fun _ => true) true 23 v d p) : ∃ l, IntsAt W v l := by
  obtain ⟨a, len, cap, rfl⟩ := okWide_slice Try.underlying23 hv
  obtain ⟨m, hm⟩ := h
  exact ints_cell hm
set_option maxRecDepth 100000 in
/-- An argument of type [][]int. -/
theorem grid_open {H : Type} {enc : TypeId × Value → H} {v : Value} {d : DataW H} {p : List MemPlace} {base : Nat} {W : World} (hv : Value.okWide Try.prog W .any base 22 v)
    (h : DataW.Trod enc Try.prog W 0 (fun _ => true) true 22 v d p) : ∃ L, GridAt W v L := by
  obtain ⟨a, len, cap, rfl⟩ := okWide_slice Try.underlying22 hv
  obtain ⟨m, hm⟩ := h
  rcases Go.Deep.open_slice1 Try.underlying22 (by kernel_rfl) hm with ⟨hcs, _⟩ | ⟨x, l, c, mm, n, V, D, Pl, hcs, _, hl, hmx, hmm, _, hx⟩
  · obtain ⟨rfl, rfl, rfl⟩ : a = none ∧ len = 0 ∧ cap = 0 := by
      have : Value.slice a len cap = .slice none 0 0 := List.head_eq_of_cons_eq hcs
      simpa using this
    exact ⟨[], SliceOf.nil W⟩
  · obtain ⟨rfl, rfl, rfl⟩ : a = some x ∧ len = l ∧ cap = c := by
      have : Value.slice a len cap = .slice (some x) l c := List.head_eq_of_cons_eq hcs
      simpa using this
    simp only [if_true] at hmm
    subst hmm
    obtain ⟨Z, hZ⟩ := Go.Deep.choose_lt (fun i hi => ints_cell (hx i hi).2)
    refine ⟨(List.range len).map Z, (List.range len).map (fun i => [V i]), some x, mm, by simp, by simpa using hl, by unfold maxLen at hmx; omega, (fun h => by cases h), by simp, (fun c hc => ?_), (fun q hq i c j u hi hj => ?_), (fun i c y hi hy => ?_)⟩
    · obtain ⟨i, _, rfl⟩ := List.mem_map.1 hc
      rfl
    · obtain rfl := Option.some.inj hq
      rw [List.getElem?_map] at hi
      by_cases hil : i < len
      · rw [List.getElem?_range hil] at hi
        simp only [Option.map_some, Option.some.injEq] at hi
        subst hi
        have hj0 : j = 0 := by
          rcases j with _ | j
          · rfl
          · simp at hj
        subst hj0
        simp only [List.getElem?_cons_zero, Option.some.injEq] at hj
        subst hj
        rw [Nat.mul_one, Nat.add_zero]
        exact (hx i (by omega)).1
      · rw [List.getElem?_eq_none (by simpa using hil)] at hi
        simp at hi
    · rw [List.getElem?_map] at hi hy
      by_cases hil : i < len
      · rw [List.getElem?_range hil] at hi hy
        simp only [Option.map_some, Option.some.injEq] at hi hy
        subst hi
        subst hy
        exact ⟨V i, rfl, hZ i (by omega)⟩
      · rw [List.getElem?_eq_none (by simpa using hil)] at hi
        simp at hi

end Go.Proofs.Ythplbhgbgcfogaa
