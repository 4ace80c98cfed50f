/- A tally and a Ratio that come in are opened. -/
import Derived.Test.YtlhkjkhbgebgiaaVO
import Derived.Test.YtlhkjkhbgebgiaaR7
import Derived.Lib.SmallJoins
namespace Go.Proofs.Ytlhkjkhbgebgiaa
open Go.ChangeShapes Go.WideShapes Go.ChangeAt Go.RowKit Go.Proofs.Kit Go.Proofs.Nums

theorem nat_cell {H : Type} {enc : TypeId × Value → H} {v : Value} {W : World} {n : Nat} {y : DataW H × List MemPlace} (hm : DataW.trod enc Try.prog W 0 (fun _ => true) true n 28 [v] = some y) : ∃ l, NatAt W v l := by
  obtain ⟨a, len, cap, hs⟩ := Joins.slice_form Try.underlying28 hm
  obtain rfl : v = .slice a len cap := List.head_eq_of_cons_eq hs
  rcases open_ints Try.underlying28 Try.underlying41 (by kernel_rfl) hm with ⟨hcs, _⟩ | ⟨x, l, c, zs, hcs, _, hl, hmx, hz, _, hcell, hwz⟩
  · obtain ⟨rfl, rfl, rfl⟩ : a = none ∧ len = 0 ∧ cap = 0 := by
      have : Value.slice a len cap = .slice none 0 0 := List.head_eq_of_cons_eq hcs
      simpa using this
    exact ⟨[], NatAt.nil W⟩
  · obtain ⟨rfl, rfl, rfl⟩ : a = some x ∧ len = l ∧ cap = c := by
      have : Value.slice a len cap = .slice (some x) l c := List.head_eq_of_cons_eq hcs
      simpa using this
    have hz' : zs.length = cap := by simpa using hz
    have hw : ∀ z ∈ zs, 0 ≤ z ∧ z < 4294967296 := fun z hzz => by
      have := hwz z hzz
      simp [Lit.wf] at this
      have e1 : IntKind.u32.min = 0 := by decide
      have e2 : IntKind.u32.max = 4294967295 := by decide
      omega
    refine ⟨(zs.take len).map Int.toNat, ⟨some x, cap, ?_, ?_, ?_, ?_, ?_⟩, ?_⟩
    · simp; omega
    · simp; omega
    · unfold maxLen at hmx; omega
    · simp
    · rintro q hq i u hu
      simp only [Option.some.injEq] at hq
      subst hq
      rw [List.getElem?_map, List.getElem?_map] at hu
      by_cases hi : i < (zs.take len).length
      · rw [List.getElem?_eq_getElem hi] at hu
        simp only [Option.map_some, Option.some.injEq] at hu
        have hil : i < zs.length := by rw [List.length_take] at hi; omega
        rw [hcell i hil, ← hu]
        have e : zs.getD i 0 = zs[i] := by rw [List.getD_eq_getElem?_getD, List.getElem?_eq_getElem hil]; rfl
        have := hw zs[i] (List.getElem_mem hil)
        rw [e, List.getElem_take]
        unfold limbV
        rw [Int.toNat_of_nonneg this.1]
      · rw [List.getElem?_eq_none (by omega)] at hu; simp at hu
    · intro y hy
      obtain ⟨z, hzm, rfl⟩ := List.mem_map.1 hy
      have := hw z (List.mem_of_mem_take hzm)
      omega

set_option maxRecDepth 100000 in
theorem rat_open {H : Type} {enc : TypeId × Value → H} {v : Value} {d : DataW H} {p : List MemPlace} {base : Nat} {W : World} (hv : Value.okWide Try.prog W .any base 30 v)
    (h : DataW.Trod enc Try.prog W 0 (fun _ => true) true 30 v d p) : ∃ neg a b, RatL W v neg a b := by
  obtain ⟨v0, v1, v2, y0, y1, y2, n, rfl, _, _, g0, g1, g2⟩ := Joins.open_agg3 Try.underlying30 (by kernel_rfl) (by kernel_rfl) hv h
  obtain ⟨t, ht, _⟩ := DataW.trod_bool Try.underlying4 g0
  obtain rfl : v0 = .bool t := List.head_eq_of_cons_eq ht
  obtain ⟨a, ha⟩ := nat_cell g1
  obtain ⟨b, hb⟩ := nat_cell g2
  exact ⟨t, a, b, _, _, rfl, ha, hb⟩


set_option maxRecDepth 100000 in
theorem tally_open {H : Type} {enc : TypeId × Value → H} {v : Value} {d : DataW H} {p : List MemPlace} {base : Nat} {W : World} (hv : Value.okWide Try.prog W .any base 24 v)
    (h : DataW.Trod enc Try.prog W 0 (fun _ => true) true 24 v d p) : ∃ n mg u, v = .agg #[.int .i64 n, .int .i64 mg, .int .i64 u] := by
  obtain ⟨v0, v1, v2, y0, y1, y2, n, rfl, _, _, g0, g1, g2⟩ := Joins.open_agg3 Try.underlying24 (by kernel_rfl) (by kernel_rfl) hv h
  obtain ⟨a, ha, _⟩ := DataW.trod_int Try.underlying3 g0
  obtain ⟨b, hb, _⟩ := DataW.trod_int Try.underlying3 g1
  obtain ⟨c, hc, _⟩ := DataW.trod_int Try.underlying3 g2
  obtain rfl : v0 = .int .i64 a := List.head_eq_of_cons_eq ha
  obtain rfl : v1 = .int .i64 b := List.head_eq_of_cons_eq hb
  obtain rfl : v2 = .int .i64 c := List.head_eq_of_cons_eq hc
  exact ⟨a, b, c, rfl⟩

end Go.Proofs.Ytlhkjkhbgebgiaa
