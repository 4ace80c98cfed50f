/- A definition that comes in is opened. -/
import Derived.Test.YthdcgplocdehjaaCa
import Derived.Deep.Slices
import Derived.Deep.Strs
import Derived.Lib.SmallJoins
namespace Go.Proofs.Ythdcgplocdehjaa
open Go.ChangeShapes Go.WideShapes Go.ChangeAt Go.RowKit Go.Proofs.Kit

set_option maxRecDepth 100000 in
/-- A slice opened, its elements by a reading of their own. -/
theorem slice_open {H : Type} {enc : TypeId × Value → H} {β : Type} [Inhabited β] {R : World → List Value → β → Prop} {k : Nat} {t e : TypeId} {v : Value} {W : World} {n : Nat} {y : DataW H × List MemPlace} (ht : Try.prog.underlying t = some (.slice e)) (hk : Try.prog.cellsOf e = k)
    (hm : DataW.trod enc Try.prog W 0 (fun _ => true) true n t [v] = some y) (hR : ∀ (cs : List Value) (n : Nat) (y : DataW H × List MemPlace), DataW.trod enc Try.prog W 0 (fun _ => true) true n e cs = some y → cs.length = k → ∃ x, R W cs x) : ∃ l, SliceOf R k W v l := by
  rcases Go.Deep.open_slice ht hm with ⟨hcs, _⟩ | ⟨a, len, cap, m, n', D, Pl, hcs, _, hl, hmx, hmm, _, hx⟩
  · obtain rfl : v = .slice none 0 0 := List.head_eq_of_cons_eq hcs
    exact ⟨[], SliceOf.nil W⟩
  · obtain rfl : v = .slice (some a) len cap := List.head_eq_of_cons_eq hcs
    simp only [if_true] at hmm
    subst hmm
    rw [hk] at hx
    have hx2 : ∀ i, i < m → ∃ z : List Value × β, W.cells? 0 (a.add (i * k)) k = some z.1 ∧ z.1.length = k ∧ R W z.1 z.2 := fun i hi => by
      obtain ⟨cs', h1, h2⟩ := hx i hi
      obtain ⟨_, hlen, _⟩ := World.cells?_some h1
      obtain ⟨x, hx⟩ := hR cs' _ _ h2 hlen
      exact ⟨(cs', x), h1, hlen, hx⟩
    obtain ⟨Z, hZ⟩ := Go.Deep.choose_lt hx2
    refine ⟨(List.range len).map fun i => (Z i).2, (List.range len).map (fun i => (Z i).1), some a, m, by simp, by simpa using hl, by unfold maxLen at hmx; omega, (fun h => by cases h), by simp, (fun c hc => ?_), (fun q hq i c j u hi hj => ?_), (fun i c y hi hy => ?_)⟩
    · obtain ⟨i, hi, rfl⟩ := List.mem_map.1 hc
      exact (hZ i (by have := List.mem_range.1 hi; omega)).2.1
    · obtain rfl := Option.some.inj hq
      rw [List.getElem?_map] at hi
      by_cases hil : i < len
      · rw [List.getElem?_range hil] at hi
        simp only [Option.map_some, Option.some.injEq] at hi
        subst hi
        obtain ⟨h1, h2, h3⟩ := hZ i (by omega)
        have h4 := (World.cells?_some h1).2.2 j (by rw [← h2]; exact (List.getElem?_eq_some_iff.1 hj).1)
        rw [Go.Deep.add_add] at h4
        rw [h4]
        exact hj
      · rw [List.getElem?_eq_none (by simp; omega)] at hi
        simp at hi
    · rw [List.getElem?_map] at hi hy
      by_cases hil : i < len
      · rw [List.getElem?_range hil] at hi hy
        simp only [Option.map_some, Option.some.injEq] at hi hy
        subst hi
        subst hy
        exact (hZ i (by omega)).2.2
      · rw [List.getElem?_eq_none (by simp; omega)] at hi
        simp at hi

section
variable {H : Type} {enc : TypeId × Value → H} {W : World}
set_option maxRecDepth 100000 in
theorem str_cell {v : Value} {n : Nat} {y : DataW H × List MemPlace} (h : DataW.trod enc Try.prog W 0 (fun _ => true) true n 9 [v] = some y) : ∃ l, v = strV l := by
  obtain ⟨s, h1, _, _⟩ := DataW.trod_string Try.underlying9 h
  obtain rfl : v = .string s := List.head_eq_of_cons_eq h1
  exact ⟨s.data.toList, by unfold strV; rw [Lib.mk_data]⟩
set_option maxRecDepth 100000 in
theorem int_cell {v : Value} {n : Nat} {y : DataW H × List MemPlace} (h : DataW.trod enc Try.prog W 0 (fun _ => true) true n 3 [v] = some y) : ∃ l : Int, v = .int .i64 l := by
  obtain ⟨a, ha, _⟩ := DataW.trod_int Try.underlying3 h
  exact ⟨a, List.head_eq_of_cons_eq ha⟩
theorem len3 {l : List Value} (h : l.length = 3) : ∃ a b c, l = [a, b, c] := by
  match l, h with
  | [a, b, c], _ => exact ⟨a, b, c, rfl⟩
theorem len4 {l : List Value} (h : l.length = 4) : ∃ a b c d, l = [a, b, c, d] := by
  match l, h with
  | [a, b, c, d], _ => exact ⟨a, b, c, d, rfl⟩
set_option maxRecDepth 100000 in
theorem strs_open {v : Value} {n : Nat} {y : DataW H × List MemPlace} (h : DataW.trod enc Try.prog W 0 (fun _ => true) true n 40 [v] = some y) : ∃ l : List (List UInt8), RowAt W v (l.map strV) := by
  obtain ⟨l, css, p, cap, rfl, h1, h2, h3, h4, h5, h6, h7⟩ := slice_open (R := fun _ c (x : List UInt8) => c = [strV x]) (k := 1) Try.underlying40 (by kernel_rfl) h (fun cs n y hc hl => by
    match cs, hl with
    | [v], _ =>
      obtain ⟨l, rfl⟩ := str_cell hc
      exact ⟨l, rfl⟩)
  refine ⟨l, p, cap, by rw [List.length_map], by rw [List.length_map]; exact h1, h2, h3, fun q hq i u hi => ?_⟩
  rw [List.getElem?_map] at hi
  obtain ⟨x, hx, rfl⟩ := Option.map_eq_some_iff.1 hi
  have hil := (List.getElem?_eq_some_iff.1 hx).1
  have hc := List.getElem?_eq_getElem (l := css) (i := i) (by omega)
  have e := h7 i _ x hc hx
  have := h6 q hq i _ 0 (strV x) hc (by rw [e]; rfl)
  rw [Nat.mul_one, Nat.add_zero] at this
  exact this
set_option maxRecDepth 100000 in
theorem fld_open {cs : List Value} {n : Nat} {y : DataW H × List MemPlace} (h : DataW.trod enc Try.prog W 0 (fun _ => true) true n 42 cs = some y) (hl : cs.length = 3) : ∃ f : FldA Int, fldRA id W cs f := by
  obtain ⟨a, b, c, rfl⟩ := len3 hl
  obtain ⟨y0, y1, y2, m, _, _, h0, h1, h2⟩ := Go.Deep.trod_struct3 Try.underlying42 h
  have h0 : DataW.trod enc Try.prog W 0 (fun _ => true) true m 9 [a] = some y0 := h0
  have h1 : DataW.trod enc Try.prog W 0 (fun _ => true) true m 40 [b] = some y1 := h1
  have h2 : DataW.trod enc Try.prog W 0 (fun _ => true) true m 3 [c] = some y2 := h2
  obtain ⟨k, rfl⟩ := str_cell h0
  obtain ⟨vs, hv⟩ := strs_open h1
  obtain ⟨z, rfl⟩ := int_cell h2
  exact ⟨(k, vs, z), b, rfl, hv⟩
set_option maxRecDepth 100000 in
theorem blk_open {cs : List Value} {n : Nat} {y : DataW H × List MemPlace} (h : DataW.trod enc Try.prog W 0 (fun _ => true) true n 39 cs = some y) (hl : cs.length = 4) : ∃ f : BlkA Int, blkRA id W cs f := by
  obtain ⟨a, b, c, d, rfl⟩ := len4 hl
  obtain ⟨y0, y1, y2, y3, m, _, _, h0, h1, h2, h3⟩ := Joins.trod_struct4 Try.underlying39 h
  have h0 : DataW.trod enc Try.prog W 0 (fun _ => true) true m 9 [a] = some y0 := h0
  have h1 : DataW.trod enc Try.prog W 0 (fun _ => true) true m 9 [b] = some y1 := h1
  have h2 : DataW.trod enc Try.prog W 0 (fun _ => true) true m 37 [c] = some y2 := h2
  have h3 : DataW.trod enc Try.prog W 0 (fun _ => true) true m 3 [d] = some y3 := h3
  obtain ⟨k, rfl⟩ := str_cell h0
  obtain ⟨n', rfl⟩ := str_cell h1
  obtain ⟨fs, hf⟩ := slice_open (R := fldRA id) (k := 3) Try.underlying37 (by kernel_rfl) h2 (fun cs n y hc hl => fld_open hc hl)
  obtain ⟨z, rfl⟩ := int_cell h3
  exact ⟨(k, n', fs, z), c, rfl, hf⟩
set_option maxRecDepth 100000 in
theorem src_open {v : Value} {d : DataW H} {p : List MemPlace} {base : Nat} (hv : Value.okWide Try.prog W .any base 24 v)
    (h : DataW.Trod enc Try.prog W 0 (fun _ => true) true 24 v d p) : ∃ s : SrcA Int, ∃ u, v = .agg #[strV s.1, u] ∧ SliceOf (blkRA id) 4 W u s.2 := by
  obtain ⟨v0, v1, y0, y1, n, rfl, _, _, g0, g1⟩ := Joins.open_agg2 Try.underlying24 (by kernel_rfl) (by kernel_rfl) hv h
  obtain ⟨k, rfl⟩ := str_cell g0
  obtain ⟨bs, hb⟩ := slice_open (R := blkRA id) (k := 4) Try.underlying22 (by kernel_rfl) g1 (fun cs n y hc hl => blk_open hc hl)
  exact ⟨(k, bs), v1, rfl, hb⟩
end

end Go.Proofs.Ythdcgplocdehjaa
