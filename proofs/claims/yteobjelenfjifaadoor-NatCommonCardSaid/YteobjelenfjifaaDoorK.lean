/- A small kit: append of one element, strings out of owned bytes. Over any program. -/
import Derived.WalkKit
import Derived.WalkSpells
import Derived.WalkLawsBesides
import Derived.Lib.Hide
import Derived.Lib.Strings
import Derived.Lib.SmallJoins
import Derived.Laws.IdiomStrings
import Derived.BigQuiet
import Derived.Deep.QuietTactic
namespace Go.Proofs.Kit
open Go.RowKit

structure ElemRow (P : Program) (t e : TypeId) (z : Value) (size bytes : Nat) : Prop where
  ht : P.underlying t = some (.slice e)
  hi : (P.info? e).map (fun i => (i.zero, i.size, i.bytes)) = some (some z, size, bytes)
  hzs : z.cells.size = size
  hsz : 0 < size

theorem alloc_cell (w : World) (cs : Array Value) (e : TypeId) (fz : Nat × Nat) (j : Nat) (u : Value) (h : cs.toList[j]? = some u) :
    (w.alloc (.cells cs e fz)).cell? ((⟨w.heap.size, 0, none⟩ : Addr).add j) = some u := by
  rw [Addr.add_lit, Nat.zero_add, cell_of_row (w.alloc (.cells cs e fz)) w.heap.size j cs e fz (heap_alloc_new w _)]
  simpa using h

/-- append(s, x), x one element just laid in a new block. -/
theorem append_one {P : Program} {t e : TypeId} {z : Value} {size bytes : Nat} (E : ElemRow P t e z size bytes)
    {ops : Array Oper} {rest : List Oper} {o : Oper} {a : Act} {Q : Exit → Act → World → Prop} (hgd : o.guard = none) {s x : Operand}
    (ho : o.op = .call { callee := .builtin .append, args := #[s, x], argTypes := #[t, t] })
    {w : World} {cs : Array Value} {e' : TypeId} {fz : Nat × Nat} {base : Nat} {v : Value} {n : Nat} {xs : List Value} (hown : w.ownsRow base e size v n xs)
    (hs : a.eval s = v) (hx : a.eval x = .slice (some ⟨w.heap.size, 0, none⟩) 1 1)
    (hl : cs.size = size) (h1 : ∀ u ∈ cs.toList, u.oneCell' = true) (hn : (n + 1) * bytes ≤ 140737488355328) (hn' : n + 1 ≤ 9223372036854775807) (hbase : base ≤ w.heap.size)
    (h : ∀ v' w', w'.ownsRow base e size v' (n + 1) (xs ++ cs.toList) → w.grownBy w' v.ownBlock → Below base w w' → v' ≠ .slice none 0 0 → wpList P ops Q rest (a.put o.dst v') w') :
    wpList P ops Q (o :: rest) a (w.alloc (.cells cs e' fz)) := by
  obtain ⟨i, hi, hz0, hz1, hz2⟩ := info_parts E.hi
  refine wpList_append_own _ hgd s x t ho base e i z size bytes E.ht hi hz0 hz1 hz2 E.hzs E.hsz v n xs hs (hown.alloc _) ⟨w.heap.size, 0, none⟩ 1 1 cs.toList hx
    (by rw [Array.length_toList, hl, Nat.one_mul]) (fun j u hj => alloc_cell w cs e' fz j u hj) h1 (by unfold maxLen; omega) hn (by simp; omega) ?_
  intro v' w' hown' hg hnil
  have hg2 : w.grownBy w' v.ownBlock :=
    ⟨hg.os, hg.tape, hg.output, Nat.le_trans (by simp) hg.size, fun k hk hne => (hg.block k (by simp; omega) hne).trans (Below.heap_alloc w _ k hk)⟩
  refine h v' w' hown' hg2 ?_ ?_
  · refine (Below.refl base w).grown hg2 hbase fun k hk => ?_
    exact (hown.lt k hk).1
  · intro he; have := hnil.1 he; omega

theorem ownsRow_cases {w : World} {base size n : Nat} {e : TypeId} {v : Value} {xs : List Value} (h : w.ownsRow base e size v n xs) :
    (v = .slice none 0 0 ∧ n = 0) ∨ ∃ g cap, v = .slice (some ⟨g, 0, none⟩) n cap ∧ base ≤ g ∧ n ≤ cap ∧ ∀ j, j < n * size → w.cell? ⟨g, j, none⟩ = xs[j]? := by
  have h0 := h
  rcases h.2 with h1 | ⟨g, cap, cur, hv, hb, _, hc, _⟩
  · exact .inl h1
  · subst hv
    exact .inr ⟨g, cap, rfl, hb, hc, fun j hj => h0.cellAt j hj⟩

theorem ownsRow_below {base size n : Nat} {e : TypeId} {v : Value} {xs : List Value} {w w' : World} (h : w.ownsRow base e size v n xs) (hb : Below w.heap.size w w') : w'.ownsRow base e size v n xs := by
  refine ⟨h.1, ?_⟩
  rcases h.2 with hn | ⟨g, cap, cur, rfl, hbg, hgg, rest⟩
  · exact .inl hn
  · refine .inr ⟨g, cap, cur, rfl, hbg, ?_, rest⟩
    rw [hb.block g (Array.getElem?_eq_some_iff.1 hgg).1]
    exact hgg

theorem cell_below {w w' : World} {B : Nat} (hb : Below B w w') {b o : Nat} {v : Value} (h : w.cell? ⟨b, o, none⟩ = some v) (hB : b < B) : w'.cell? ⟨b, o, none⟩ = some v :=
  (hb.cell (p := ⟨b, o, none⟩) hB).trans h
theorem free_below {w w' : World} {B : Nat} (hb : Below B w w') {b o : Nat} (h : w.frozen? ⟨b, o, none⟩ = false) (hB : b < B) : w'.frozen? ⟨b, o, none⟩ = false :=
  (hb.frozen (p := ⟨b, o, none⟩) hB).trans h

theorem cell_alloc_old {w : World} {o : Obj} {b off : Nat} {v : Value} (h : w.cell? ⟨b, off, none⟩ = some v) : (w.alloc o).cell? ⟨b, off, none⟩ = some v := by
  have hlt : b < w.heap.size := World.block_lt_of_cell? w ⟨b, off, none⟩ h
  rw [World.cell?_of_block (w := w) (a := ⟨b, off, none⟩) (Below.heap_alloc w o b hlt)]
  exact h
theorem cell_alloc_new (w : World) (cs : Array Value) (e : TypeId) (fz : Nat × Nat) (off : Nat) : (w.alloc (.cells cs e fz)).cell? ⟨w.heap.size, off, none⟩ = cs[off]? :=
  cell_of_row (w.alloc (.cells cs e fz)) w.heap.size off cs e fz (heap_alloc_new w _)
/-- A cell, behind a new block and a call. -/
theorem cell_on {w w' : World} {o : Obj} {b off : Nat} {v : Value} (hb : Below (w.alloc o).heap.size (w.alloc o) w') (h : w.cell? ⟨b, off, none⟩ = some v) : w'.cell? ⟨b, off, none⟩ = some v :=
  cell_below hb (cell_alloc_old h) (World.block_lt_of_cell? _ ⟨b, off, none⟩ (cell_alloc_old h))
theorem cell_keep {w w' : World} {b off : Nat} {v : Value} (hb : Below w.heap.size w w') (h : w.cell? ⟨b, off, none⟩ = some v) : w'.cell? ⟨b, off, none⟩ = some v :=
  cell_below hb h (World.block_lt_of_cell? _ ⟨b, off, none⟩ h)
theorem ownsRow_on {w w' : World} {o : Obj} {base size n : Nat} {e : TypeId} {v : Value} {xs : List Value} (hb : Below (w.alloc o).heap.size (w.alloc o) w') (h : w.ownsRow base e size v n xs) : w'.ownsRow base e size v n xs :=
  ownsRow_below (h.alloc o) hb
theorem below_on {w w' : World} {o : Obj} (hb : Below (w.alloc o).heap.size (w.alloc o) w') : Below w.heap.size w w' :=
  ((Below.refl _ _).alloc (Nat.le_refl _) _).trans (hb.mono (by simp))
/-- A cell of the block just laid, behind a call. -/
theorem cell_new {w w' : World} {cs : Array Value} {e : TypeId} {fz : Nat × Nat} {off : Nat} {v : Value} (hb : Below (w.alloc (.cells cs e fz)).heap.size (w.alloc (.cells cs e fz)) w') (h : cs[off]? = some v) : w'.cell? ⟨w.heap.size, off, none⟩ = some v :=
  cell_below hb ((cell_alloc_new w cs e fz off).trans h) (by simp)

def byteV (c : UInt8) : Value := .int .u8 (c.toNat : Int)

/-- string(b), b a row of bytes of the call's own. -/
theorem string_of_owned {P : Program} {w : World} {base : Nat} {e : TypeId} {v : Value} {n : Nat} {l : List UInt8} (src dst : TypeId)
    (hs : P.underlying src = some (.slice e)) (he : P.underlying e = some (.int .u8)) (hd : P.underlying dst = some .string)
    (h : w.ownsRow base e 1 v n (l.map byteV)) : (convert src dst v).run P w = .ok (.string ⟨l.toArray⟩) w := by
  have hlen := h.1
  simp at hlen
  rcases ownsRow_cases h with ⟨rfl, rfl⟩ | ⟨g, cap, rfl, _, _, hc⟩
  · have : l = [] := List.eq_nil_of_length_eq_zero hlen
    subst this
    rw [run_convert_bytes_string w src dst e none 0 0 hs he hd]
    simp [Conv.bytesToString]
    rfl
  · rw [← hlen]
    refine run_convert_bytes_back w src dst e ⟨g, 0, none⟩ cap l hs he hd fun j hj => ?_
    rw [Addr.add_lit, Nat.zero_add, hc j (by omega)]
    simp [byteV, hj]

theorem flatMap_at {α β : Type} (f : α → List β) (c : Nat) (hf : ∀ x, (f x).length = c) (l : List α) (k i : Nat) (hk : k < l.length) (hi : i < c) :
    (l.flatMap f)[k * c + i]? = (f l[k])[i]? := by
  induction l generalizing k with
  | nil => simp at hk
  | cons a l ih =>
    rw [List.flatMap_cons]
    cases k with
    | zero => rw [Nat.zero_mul, Nat.zero_add, List.getElem?_append_left (by rw [hf]; exact hi)]; rfl
    | succ k =>
      rw [List.getElem?_append_right (by rw [hf, Nat.succ_mul]; omega), hf, show (k + 1) * c + i - c = k * c + i by rw [Nat.succ_mul]; omega, ih k (by simpa using hk)]
      rfl

end Go.Proofs.Kit
