/- Contracts and plain facts, part 1: GK, KR. No condition beyond those that each theorem states. -/
import Derived.WalkKit
import Derived.WalkSpells
import Derived.WalkLawsBesides
import Derived.Lib.Hide
import Derived.Lib.Strings
import Derived.Lib.SmallJoins
import Derived.Laws.IdiomStrings
import Derived.BigQuiet
import Derived.Deep.QuietTactic
import Derived.Maps.AppendAt
import Derived.Lib.AppendZerosOnto
import Derived.Deep.AppendLies
import Derived.Deep.RegionLaw
/- A small kit: append of one element, strings out of owned bytes. Over any program. -/
namespace Go.Proofs.Kit
open Go.RowKit

structure ElemRow (P : Program) (t e : TypeId) (z : Value) (size bytes : Nat) : Prop where
  ht : P.underlying t = some (.slice e)
  hi : (P.info? e).map (fun i => (i.zero, i.size, i.bytes)) = some (some z, size, bytes)
  hzs : z.cells.size = size
  hsz : 0 < size

theorem alloc_cell (w : World) (cs : Array Value) (e : TypeId) (fz : Nat × Nat) (j : Nat) (u : Value) (h : cs.toList[j]? = some u) :
    (w.alloc (.cells cs e fz)).cell? ((⟨w.heap.size, 0, none⟩ : Addr).add j) = some u := by
  rw [Addr.add_lit, Nat.zero_add, cell_of_row (w.alloc (.cells cs e fz)) w.heap.size j cs e fz (heap_alloc_new w _)]
  simpa using h

/-- append(s, x), x one element just laid in a new block. -/
theorem append_one {P : Program} {t e : TypeId} {z : Value} {size bytes : Nat} (E : ElemRow P t e z size bytes)
    {ops : Array Oper} {rest : List Oper} {o : Oper} {a : Act} {Q : Exit → Act → World → Prop} (hgd : o.guard = none) {s x : Operand}
    (ho : o.op = .call { callee := .builtin .append, args := #[s, x], argTypes := #[t, t] })
    {w : World} {cs : Array Value} {e' : TypeId} {fz : Nat × Nat} {base : Nat} {v : Value} {n : Nat} {xs : List Value} (hown : w.ownsRow base e size v n xs)
    (hs : a.eval s = v) (hx : a.eval x = .slice (some ⟨w.heap.size, 0, none⟩) 1 1)
    (hl : cs.size = size) (h1 : ∀ u ∈ cs.toList, u.oneCell' = true) (hn : (n + 1) * bytes ≤ 140737488355328) (hn' : n + 1 ≤ 9223372036854775807) (hbase : base ≤ w.heap.size)
    (h : ∀ v' w', w'.ownsRow base e size v' (n + 1) (xs ++ cs.toList) → w.grownBy w' v.ownBlock → Below base w w' → v' ≠ .slice none 0 0 → wpList P ops Q rest (a.put o.dst v') w') :
    wpList P ops Q (o :: rest) a (w.alloc (.cells cs e' fz)) := by
  obtain ⟨i, hi, hz0, hz1, hz2⟩ := info_parts E.hi
  refine wpList_append_own _ hgd s x t ho base e i z size bytes E.ht hi hz0 hz1 hz2 E.hzs E.hsz v n xs hs (hown.alloc _) ⟨w.heap.size, 0, none⟩ 1 1 cs.toList hx
    (by rw [Array.length_toList, hl, Nat.one_mul]) (fun j u hj => alloc_cell w cs e' fz j u hj) h1 (by unfold maxLen; omega) hn (by simp; omega) ?_
  intro v' w' hown' hg hnil
  have hg2 : w.grownBy w' v.ownBlock :=
    ⟨hg.os, hg.tape, hg.output, Nat.le_trans (by simp) hg.size, fun k hk hne => (hg.block k (by simp; omega) hne).trans (Below.heap_alloc w _ k hk)⟩
  refine h v' w' hown' hg2 ?_ ?_
  · refine (Below.refl base w).grown hg2 hbase fun k hk => ?_
    exact (hown.lt k hk).1
  · intro he; have := hnil.1 he; omega

theorem ownsRow_cases {w : World} {base size n : Nat} {e : TypeId} {v : Value} {xs : List Value} (h : w.ownsRow base e size v n xs) :
    (v = .slice none 0 0 ∧ n = 0) ∨ ∃ g cap, v = .slice (some ⟨g, 0, none⟩) n cap ∧ base ≤ g ∧ n ≤ cap ∧ ∀ j, j < n * size → w.cell? ⟨g, j, none⟩ = xs[j]? := by
  have h0 := h
  rcases h.2 with h1 | ⟨g, cap, cur, hv, hb, _, hc, _⟩
  · exact .inl h1
  · subst hv
    exact .inr ⟨g, cap, rfl, hb, hc, fun j hj => h0.cellAt j hj⟩

theorem ownsRow_below {base size n : Nat} {e : TypeId} {v : Value} {xs : List Value} {w w' : World} (h : w.ownsRow base e size v n xs) (hb : Below w.heap.size w w') : w'.ownsRow base e size v n xs := by
  refine ⟨h.1, ?_⟩
  rcases h.2 with hn | ⟨g, cap, cur, rfl, hbg, hgg, rest⟩
  · exact .inl hn
  · refine .inr ⟨g, cap, cur, rfl, hbg, ?_, rest⟩
    rw [hb.block g (Array.getElem?_eq_some_iff.1 hgg).1]
    exact hgg

theorem cell_below {w w' : World} {B : Nat} (hb : Below B w w') {b o : Nat} {v : Value} (h : w.cell? ⟨b, o, none⟩ = some v) (hB : b < B) : w'.cell? ⟨b, o, none⟩ = some v :=
  (hb.cell (p := ⟨b, o, none⟩) hB).trans h
theorem free_below {w w' : World} {B : Nat} (hb : Below B w w') {b o : Nat} (h : w.frozen? ⟨b, o, none⟩ = false) (hB : b < B) : w'.frozen? ⟨b, o, none⟩ = false :=
  (hb.frozen (p := ⟨b, o, none⟩) hB).trans h

theorem cell_alloc_old {w : World} {o : Obj} {b off : Nat} {v : Value} (h : w.cell? ⟨b, off, none⟩ = some v) : (w.alloc o).cell? ⟨b, off, none⟩ = some v := by
  have hlt : b < w.heap.size := World.block_lt_of_cell? w ⟨b, off, none⟩ h
  rw [World.cell?_of_block (w := w) (a := ⟨b, off, none⟩) (Below.heap_alloc w o b hlt)]
  exact h
theorem cell_alloc_new (w : World) (cs : Array Value) (e : TypeId) (fz : Nat × Nat) (off : Nat) : (w.alloc (.cells cs e fz)).cell? ⟨w.heap.size, off, none⟩ = cs[off]? :=
  cell_of_row (w.alloc (.cells cs e fz)) w.heap.size off cs e fz (heap_alloc_new w _)
/-- A cell, behind a new block and a call. -/
theorem cell_on {w w' : World} {o : Obj} {b off : Nat} {v : Value} (hb : Below (w.alloc o).heap.size (w.alloc o) w') (h : w.cell? ⟨b, off, none⟩ = some v) : w'.cell? ⟨b, off, none⟩ = some v :=
  cell_below hb (cell_alloc_old h) (World.block_lt_of_cell? _ ⟨b, off, none⟩ (cell_alloc_old h))
theorem cell_keep {w w' : World} {b off : Nat} {v : Value} (hb : Below w.heap.size w w') (h : w.cell? ⟨b, off, none⟩ = some v) : w'.cell? ⟨b, off, none⟩ = some v :=
  cell_below hb h (World.block_lt_of_cell? _ ⟨b, off, none⟩ h)
theorem ownsRow_on {w w' : World} {o : Obj} {base size n : Nat} {e : TypeId} {v : Value} {xs : List Value} (hb : Below (w.alloc o).heap.size (w.alloc o) w') (h : w.ownsRow base e size v n xs) : w'.ownsRow base e size v n xs :=
  ownsRow_below (h.alloc o) hb
theorem below_on {w w' : World} {o : Obj} (hb : Below (w.alloc o).heap.size (w.alloc o) w') : Below w.heap.size w w' :=
  ((Below.refl _ _).alloc (Nat.le_refl _) _).trans (hb.mono (by simp))
/-- A cell of the block just laid, behind a call. -/
theorem cell_new {w w' : World} {cs : Array Value} {e : TypeId} {fz : Nat × Nat} {off : Nat} {v : Value} (hb : Below (w.alloc (.cells cs e fz)).heap.size (w.alloc (.cells cs e fz)) w') (h : cs[off]? = some v) : w'.cell? ⟨w.heap.size, off, none⟩ = some v :=
  cell_below hb ((cell_alloc_new w cs e fz off).trans h) (by simp)

def byteV (c : UInt8) : Value := .int .u8 (c.toNat : Int)

/-- string(b), b a row of bytes of the call's own. -/
theorem string_of_owned {P : Program} {w : World} {base : Nat} {e : TypeId} {v : Value} {n : Nat} {l : List UInt8} (src dst : TypeId)
    (hs : P.underlying src = some (.slice e)) (he : P.underlying e = some (.int .u8)) (hd : P.underlying dst = some .string)
    (h : w.ownsRow base e 1 v n (l.map byteV)) : (convert src dst v).run P w = .ok (.string ⟨l.toArray⟩) w := by
  have hlen := h.1
  simp at hlen
  rcases ownsRow_cases h with ⟨rfl, rfl⟩ | ⟨g, cap, rfl, _, _, hc⟩
  · have : l = [] := List.eq_nil_of_length_eq_zero hlen
    subst this
    rw [run_convert_bytes_string w src dst e none 0 0 hs he hd]
    simp [Conv.bytesToString]
    rfl
  · rw [← hlen]
    refine run_convert_bytes_back w src dst e ⟨g, 0, none⟩ cap l hs he hd fun j hj => ?_
    rw [Addr.add_lit, Nat.zero_add, hc j (by omega)]
    simp [byteV, hj]

theorem flatMap_at {α β : Type} (f : α → List β) (c : Nat) (hf : ∀ x, (f x).length = c) (l : List α) (k i : Nat) (hk : k < l.length) (hi : i < c) :
    (l.flatMap f)[k * c + i]? = (f l[k])[i]? := by
  induction l generalizing k with
  | nil => simp at hk
  | cons a l ih =>
    rw [List.flatMap_cons]
    cases k with
    | zero => rw [Nat.zero_mul, Nat.zero_add, List.getElem?_append_left (by rw [hf]; exact hi)]; rfl
    | succ k =>
      rw [List.getElem?_append_right (by rw [hf, Nat.succ_mul]; omega), hf, show (k + 1) * c + i - c = k * c + i by rw [Nat.succ_mul]; omega, ih k (by simpa using hk)]
      rfl

end Go.Proofs.Kit

/- A small kit, second part: regions that draw their order and call functions that make memory; appends of rows. Over any program. -/
namespace Go.Proofs.Kit
open Go.RowKit

/-- A world behind w: what was there has not turned. -/
structure Later (w : World) where
  val : World
  h : Below w.heap.size w val

def Later.same (w : World) : Later w := ⟨w, Below.refl _ _⟩

instance (w : World) : Nonempty (Later w) := ⟨Later.same w⟩

theorem wp_region_later {P : Program} {id : Nat} {Q : Exit → Act → World → Prop} {a : Act} {w : World} {l : List Oper} (hm : P.follows .mixedOrders = true) (hB : Region.lexB .any l.toArray = true)
    (h : wpQuiet P l.toArray (fun w' => ∃ x : Later w, w' = x.val) (fun a' => ∀ w', (∃ x : Later w, w' = x.val) → Q .normal a' w') l a) : (Code.region id l.toArray true).wp P Q a w :=
  wp_region_quiet (C := fun w' => ∃ x : Later w, w' = x.val) hm hB ⟨⟨_, (Below.refl _ w).drew⟩, rfl⟩ (by simpa using h)

theorem Later.call {P : Program} {f : FuncId} {args : Array Value} {w : World} {x : Later w} {v : Value}
    (h : Calls P f args x.val fun e w' => e = .returned v ∧ Below x.val.heap.size x.val w') : Calls P f args x.val fun e w'' => e = .returned v ∧ ∃ y : Later w, w'' = y.val :=
  h.mono fun _ w' ⟨he, hb⟩ => ⟨he, ⟨w', x.h.trans (hb.mono x.h.size)⟩, rfl⟩
theorem Later.call_same {P : Program} {f : FuncId} {args : Array Value} {w : World} {x : Later w} {v : Value}
    (h : Calls P f args x.val fun e w' => e = .returned v ∧ x.val = w') : Calls P f args x.val fun e w'' => e = .returned v ∧ ∃ y : Later w, w'' = y.val :=
  h.mono fun _ _ ⟨he, hb⟩ => ⟨he, x, hb.symm⟩
theorem Later.cell {w : World} {b o : Nat} {v : Value} (h : w.cell? ⟨b, o, none⟩ = some v) : ∀ x : Later w, x.val.cell? ⟨b, o, none⟩ = some v :=
  fun x => cell_below x.h h (World.block_lt_of_cell? _ ⟨b, o, none⟩ h)

/-- An operation that is wanted. -/
theorem wpList_wanted {P : Program} {ops : Array Oper} {Q : Exit → Act → World → Prop} {a : Act} {w : World} {rest : List Oper} {o : Oper}
    (hg : Region.wanted o (yielded ops a.tmps) = true)
    (h : ∀ K : Act → World → Prop, (∀ a w, wpList P ops Q rest a w → K a w) → o.wp P a w K Q) : wpList P ops Q (o :: rest) a w :=
  wpList_step fun K hK => by rw [if_pos hg]; exact h K hK

/-- append(s, x...), s nil or the call's own, x a row that is read; the operation may be guarded. -/
theorem append_row {P : Program} {t e : TypeId} {z : Value} {size bytes : Nat} (E : ElemRow P t e z size bytes)
    {ops : Array Oper} {rest : List Oper} {o : Oper} {a : Act} {Q : Exit → Act → World → Prop} {w : World} (hgd : Region.wanted o (yielded ops a.tmps) = true) {s x : Operand}
    (ho : o.op = .call { callee := .builtin .append, args := #[s, x], argTypes := #[t, t] })
    {base : Nat} {v : Value} {n : Nat} {xs : List Value} (hown : w.ownsRow base e size v n xs)
    (hs : a.eval s = v) {ad : Addr} {m c : Nat} {news : List Value} (hx : a.eval x = .slice (some ad) m c) (hl : news.length = m * size)
    (hnews : ∀ j u, news[j]? = some u → w.cell? (ad.add j) = some u) (h1 : ∀ u ∈ news, u.oneCell' = true) (hn : (n + m) * bytes ≤ 140737488355328) (hn' : n + m ≤ 9223372036854775807) (hbase : base ≤ w.heap.size)
    (h : ∀ v' w', w'.ownsRow base e size v' (n + m) (xs ++ news) → w.grownBy w' v.ownBlock → Below base w w' → wpList P ops Q rest (a.put o.dst v') w') :
    wpList P ops Q (o :: rest) a w := by
  obtain ⟨i, hi, hz0, hz1, hz2⟩ := info_parts E.hi
  refine wpList_wanted hgd fun K hK => ?_
  refine wp_append_own w s x t ho base e i z size bytes E.ht hi hz0 hz1 hz2 E.hzs E.hsz v n xs hs hown ad m c news hx hl hnews h1 (by unfold maxLen; omega) hn hbase fun v' w' h2 h3 _ => ?_
  refine hK _ _ (h v' w' h2 h3 ((Below.refl base w).grown h3 hbase fun k hk => ?_))
  exact (hown.lt k hk).1

/-- append(s, x...), x nil. -/
theorem append_nil {P : Program} {t e : TypeId} {z : Value} {size bytes : Nat} (E : ElemRow P t e z size bytes)
    {ops : Array Oper} {rest : List Oper} {o : Oper} {a : Act} {Q : Exit → Act → World → Prop} {w : World} (hgd : Region.wanted o (yielded ops a.tmps) = true) {s x : Operand}
    (ho : o.op = .call { callee := .builtin .append, args := #[s, x], argTypes := #[t, t] })
    {base : Nat} {v : Value} {n : Nat} {xs : List Value} (hown : w.ownsRow base e size v n xs) (hs : a.eval s = v) (hx : a.eval x = .slice none 0 0)
    (h : wpList P ops Q rest (a.put o.dst v) w) : wpList P ops Q (o :: rest) a w := by
  obtain ⟨i, hi, hz0, hz1, hz2⟩ := info_parts E.hi
  refine wpList_wanted hgd fun K hK => ?_
  have hrun := run_append_owned_none (P := P) w base t o.type e i size E.ht hi v n xs hown
  unfold Oper.wp
  simp [execOp, ho, resolve, invoke, builtin, hs, hx, hrun, Result.andThen]
  exact hK _ _ h

end Go.Proofs.Kit

/- A small kit, third part: slices that are read. Over any program. -/
namespace Go.Proofs.Kit
open Go.RowKit

/-- v is a slice of cs.length elements of one cell each, whose cells are cs. -/
def RowAt (w : World) (v : Value) (cs : List Value) : Prop :=
  ∃ p cap, v = .slice p cs.length cap ∧ cs.length ≤ cap ∧ cap ≤ 9223372036854775807 ∧ (p = none → cap = 0) ∧ ∀ q, p = some q → ∀ i u, cs[i]? = some u → w.cell? (q.add i) = some u

theorem RowAt.nil (w : World) : RowAt w (.slice none 0 0) [] := ⟨none, 0, rfl, Nat.le_refl _, by omega, fun _ => rfl, fun _ h => by simp at h⟩

/-- Its shape. -/
theorem RowAt.cases {w : World} {v : Value} {cs : List Value} (h : RowAt w v cs) :
    (cs = [] ∧ ∃ p cap, v = .slice p 0 cap ∧ cap ≤ 9223372036854775807 ∧ (p = none → cap = 0)) ∨
    (0 < cs.length ∧ ∃ b off cap, v = .slice (some ⟨b, off, none⟩) cs.length cap ∧ cs.length ≤ cap ∧ cap ≤ 9223372036854775807 ∧ b < w.heap.size ∧ ∀ i u, cs[i]? = some u → w.cell? ⟨b, off + i, none⟩ = some u) := by
  obtain ⟨p, cap, rfl, h1, h2, h3, h4⟩ := h
  cases cs with
  | nil => exact .inl ⟨rfl, p, cap, rfl, h2, h3⟩
  | cons c cs =>
    right
    refine ⟨by simp, ?_⟩
    cases p with
    | none => have := h3 rfl; simp at h1; omega
    | some q =>
      obtain ⟨b, off, spot⟩ := q
      have hc := h4 _ rfl 0 c rfl
      have hspot : spot = none := by simpa [Addr.add] using World.cell?_spot hc
      subst hspot
      have hb := World.block_lt_of_cell? w _ hc
      rw [Addr.add_lit] at hb
      refine ⟨b, off, cap, rfl, h1, h2, hb, fun i u hi => ?_⟩
      have := h4 _ rfl i u hi
      rw [Addr.add_lit] at this
      exact this

theorem RowAt.mk {w : World} {b off cap : Nat} {cs : List Value} (h1 : cs.length ≤ cap) (h2 : cap ≤ 9223372036854775807) (h : ∀ i u, cs[i]? = some u → w.cell? ⟨b, off + i, none⟩ = some u) :
    RowAt w (.slice (some ⟨b, off, none⟩) cs.length cap) cs :=
  ⟨_, _, rfl, h1, h2, fun h => by simp at h, fun q hq i u hi => by obtain rfl := Option.some.inj hq; rw [Addr.add_lit]; exact h i u hi⟩

theorem RowAt.empty {w : World} {p : Option Addr} {cap : Nat} (h2 : cap ≤ 9223372036854775807) (h3 : p = none → cap = 0) : RowAt w (.slice p 0 cap) [] :=
  ⟨p, cap, rfl, Nat.zero_le _, h2, h3, fun q _ i u hi => by simp at hi⟩

/-- A row that reads, read later. -/
theorem RowAt.keep {w w' : World} {v : Value} {cs : List Value} (h : RowAt w v cs) (hb : Below w.heap.size w w') : RowAt w' v cs := by
  obtain ⟨p, cap, rfl, h1, h2, h3, h4⟩ := h
  refine ⟨p, cap, rfl, h1, h2, h3, fun q hq i u hi => ?_⟩
  have := h4 q hq i u hi
  exact (hb.cell (p := q.add i) (World.block_lt_of_cell? w _ this)).trans this

theorem RowAt.alloc {w : World} {v : Value} {cs : List Value} (h : RowAt w v cs) (o : Obj) : RowAt (w.alloc o) v cs :=
  h.keep ((Below.refl _ _).alloc (Nat.le_refl _) _)
theorem RowAt.on {w w' : World} {o : Obj} {v : Value} {cs : List Value} (h : RowAt w v cs) (hb : Below (w.alloc o).heap.size (w.alloc o) w') : RowAt w' v cs := (h.alloc o).keep hb
theorem RowAt.drewN {w : World} {v : Value} {cs : List Value} (h : RowAt w v cs) (n : Nat) : RowAt (w.drewN n) v cs := h.keep (below_drewN (Below.refl _ _) n)

/-- What the call owns reads. -/
theorem RowAt.owned {w : World} {base : Nat} {e : TypeId} {v : Value} {n : Nat} {cs : List Value} (h : w.ownsRow base e 1 v n cs) : RowAt w v cs := by
  have hl := h.1
  rw [Nat.mul_one] at hl
  rcases h.2 with ⟨rfl, rfl⟩ | ⟨g, cap, cur, rfl, _, _, hc, hm, _⟩
  · have : cs = [] := List.eq_nil_of_length_eq_zero hl
    subst this; exact RowAt.nil w
  · rw [← hl]
    refine RowAt.mk (by omega) (by unfold maxLen at hm; omega) fun i u hi => ?_
    have hi' := (List.getElem?_eq_some_iff.1 hi).1
    rw [Nat.zero_add, h.cellAt i (by omega), hi]

/-- A beginning of a row. -/
theorem RowAt.take {w : World} {b off cap n : Nat} {cs : List Value} (h : RowAt w (.slice (some ⟨b, off, none⟩) n cap) cs) (k : Nat) (hk : k ≤ cs.length) :
    RowAt w (.slice (some ⟨b, off, none⟩) k cap) (cs.take k) := by
  obtain ⟨p, cap', hv, h1, h2, h3, h4⟩ := h
  simp only [Value.slice.injEq] at hv
  obtain ⟨rfl, rfl, rfl⟩ := hv
  have hl : (cs.take k).length = k := by rw [List.length_take]; omega
  refine ⟨_, _, by rw [hl], by omega, h2, fun h => by simp at h, fun q hq i u hi => ?_⟩
  rw [List.getElem?_take] at hi
  split at hi
  · exact h4 q hq i u hi
  · simp at hi

theorem below_new {w w' : World} {o : Obj} (hb : Below w.heap.size (w.alloc o) w') : Below w.heap.size w w' :=
  ((Below.refl _ _).alloc (Nat.le_refl _) _).trans hb

/-- make([]T, L), L whatever. -/
theorem make_any {P : Program} {t e : TypeId} {z : Value} {size bytes : Nat} (E : ElemRow P t e z size bytes)
    {ops : Array Oper} {rest : List Oper} {o : Oper} {a : Act} {Q : Exit → Act → World → Prop} {w : World} (hg : o.guard = none) {l c : Operand} (hop : o.op = Op.makeSlice t l c)
    {kl kc : IntKind} {L : Int} (hl : a.eval l = .int kl L) (hc : a.eval c = .int kc L) (h0 : 0 ≤ L) (hb : (bytes : Int) * L ≤ 281474976710656) (h63 : L ≤ 9223372036854775807)
    (hK : ∀ w', w'.ownsRow w.heap.size e size (.slice (some ⟨w.heap.size, 0, none⟩) L.toNat L.toNat) L.toNat (madeCells z.cells (L.toNat * size)).toList → Below w.heap.size w w' → wpList P ops Q rest (a.put o.dst (.slice (some ⟨w.heap.size, 0, none⟩) L.toNat L.toNat)) w') :
    wpList P ops Q (o :: rest) a w := by
  obtain ⟨i, hi, hz0, hz1, hz2⟩ := info_parts E.hi
  have hL : L = (L.toNat : Int) := by omega
  refine wpList_make_full w hg l c t hop w.heap.size e i z size E.ht hi hz0 hz1 kl kc L L L.toNat hl hc hL hL ?_ (by unfold maxLen; omega) (Nat.le_refl _) ?_
  · rw [hz2]
    have : ((bytes * L.toNat : Nat) : Int) ≤ 281474976710656 := by rw [Int.natCast_mul, ← hL]; exact hb
    omega
  · intro w' h1 h2
    exact hK w' h1 ((Below.refl _ _).grown h2 (Nat.le_refl _) (fun k hk => by simp at hk))

end Go.Proofs.Kit

/- A small kit, fourth part: where an append's row lies. Over any program. -/
namespace Go.Proofs.Kit
open Go.RowKit

theorem RowAt.same {w w' : World} {v : Value} {cs : List Value} (h : RowAt w v cs) (hh : ∀ b, v.ownBlock = some b → w'.heap[b]? = w.heap[b]?) : RowAt w' v cs := by
  obtain ⟨p, cap, rfl, h1, h2, h3, h4⟩ := h
  refine ⟨p, cap, rfl, h1, h2, h3, fun q hq i u hi => ?_⟩
  have e : (q.add i).block = q.block := by
    cases q
    first | rfl | (unfold Addr.add; split <;> rfl)
  have := hh q.block (by subst hq; rfl)
  rw [← e] at this
  rw [World.cell?_of_block (w := w) (a := q.add i) this]; exact h4 q hq i u hi

/-- append(s, x), x one element just laid in a new block. -/
theorem append_fresh {P : Program} {t e : TypeId} {z : Value} {size bytes : Nat} (E : ElemRow P t e z size bytes)
    {ops : Array Oper} {rest : List Oper} {o : Oper} {a : Act} {Q : Exit → Act → World → Prop} (hgd : o.guard = none) {s x : Operand}
    (ho : o.op = .call { callee := .builtin .append, args := #[s, x], argTypes := #[t, t] })
    {w : World} {cs : Array Value} {e' : TypeId} {fz : Nat × Nat} {base : Nat} {v : Value} {n : Nat} {xs : List Value} (hown : w.ownsRow base e size v n xs)
    (hs : a.eval s = v) (hx : a.eval x = .slice (some ⟨w.heap.size, 0, none⟩) 1 1)
    (hl : cs.size = size) (h1 : ∀ u ∈ cs.toList, u.oneCell' = true) (hn : (n + 1) * bytes ≤ 140737488355328) (hn' : n + 1 ≤ 9223372036854775807) (hbase : base ≤ w.heap.size)
    (h : ∀ v' w', w'.ownsRow base e size v' (n + 1) (xs ++ cs.toList) → w.grownBy w' v.ownBlock → Below base w w' → v' ≠ .slice none 0 0 → (v'.ownBlock = v.ownBlock ∨ ∃ g, v'.ownBlock = some g ∧ w.heap.size ≤ g) → wpList P ops Q rest (a.put o.dst v') w') :
    wpList P ops Q (o :: rest) a (w.alloc (.cells cs e' fz)) := by
  obtain ⟨i, hi, hz0, hz1, hz2⟩ := info_parts E.hi
  refine wpList_append_own_at _ hgd s x t ho base e i z size bytes E.ht hi hz0 hz1 hz2 E.hzs E.hsz v n xs hs (hown.alloc _) ⟨w.heap.size, 0, none⟩ 1 1 cs.toList hx
    (by rw [Array.length_toList, hl, Nat.one_mul]) (fun j u hj => alloc_cell w cs e' fz j u hj) h1 (by unfold maxLen; omega) hn (by simp; omega) ?_
  intro v' w' hown' hg hnil hfr
  have hg2 : w.grownBy w' v.ownBlock :=
    ⟨hg.os, hg.tape, hg.output, Nat.le_trans (by simp) hg.size, fun k hk hne => (hg.block k (by simp; omega) hne).trans (Below.heap_alloc w _ k hk)⟩
  refine h v' w' hown' hg2 ?_ ?_ ?_
  · refine (Below.refl base w).grown hg2 hbase fun k hk => ?_
    exact (hown.lt k hk).1
  · intro he; have := hnil.1 he; omega
  · rcases hfr with h1 | h1
    · exact .inl h1
    · exact .inr ⟨_, h1, by simp⟩

end Go.Proofs.Kit

/- A small kit, fifth part: an append of whatever row is read. Over any program. -/
namespace Go.Proofs.Kit
open Go.RowKit

theorem append_read {P : Program} {t e : TypeId} {z : Value} {bytes : Nat} (E : ElemRow P t e z 1 bytes)
    {ops : Array Oper} {rest : List Oper} {o : Oper} {a : Act} {Q : Exit → Act → World → Prop} {w : World} (hgd : Region.wanted o (yielded ops a.tmps) = true) {s x : Operand}
    (ho : o.op = .call { callee := .builtin .append, args := #[s, x], argTypes := #[t, t] })
    {base : Nat} {v : Value} {n : Nat} {xs : List Value} (hown : w.ownsRow base e 1 v n xs)
    (hs : a.eval s = v) {xv : Value} {cs : List Value} (hr : RowAt w xv cs) (hx : a.eval x = xv)
    (h1 : ∀ u ∈ cs, u.oneCell' = true) (hn : (n + cs.length) * bytes ≤ 140737488355328) (hn' : n + cs.length ≤ 9223372036854775807) (hbase : base ≤ w.heap.size)
    (h : ∀ v' w', w'.ownsRow base e 1 v' (n + cs.length) (xs ++ cs) → Below base w w' → wpList P ops Q rest (a.put o.dst v') w') :
    wpList P ops Q (o :: rest) a w := by
  obtain ⟨p, cap, rfl, c1, c2, c3, c4⟩ := hr
  cases p with
  | none =>
    have hc := c3 rfl
    subst hc
    have hl : cs = [] := List.eq_nil_of_length_eq_zero (by omega)
    subst hl
    refine append_nil E hgd ho hown hs hx ?_
    exact h v w (by simpa using hown) (Below.refl _ _)
  | some q =>
    exact append_row E hgd ho hown hs hx (by rw [Nat.mul_one]) (c4 q rfl) h1 hn hn' hbase (fun v' w' h2 _ h3 => h v' w' h2 h3)

end Go.Proofs.Kit

/- A small kit, sixth part: make with room, no length. Over any program. -/
namespace Go.Proofs.Kit
open Go.RowKit

/-- make([]T, 0, C). -/
theorem make_room {P : Program} {t e : TypeId} {z : Value} {size bytes : Nat} (E : ElemRow P t e z size bytes)
    {ops : Array Oper} {rest : List Oper} {o : Oper} {a : Act} {Q : Exit → Act → World → Prop} {w : World} (hg : o.guard = none) {l c : Operand} (hop : o.op = Op.makeSlice t l c)
    {kl kc : IntKind} {C : Int} (hl : a.eval l = .int kl 0) (hc : a.eval c = .int kc C) (h0 : 0 ≤ C) (hb : (bytes : Int) * C ≤ 281474976710656) (h63 : C ≤ 9223372036854775807)
    (hK : ∀ w', w'.ownsRow w.heap.size e size (.slice (some ⟨w.heap.size, 0, none⟩) 0 C.toNat) 0 [] → Below w.heap.size w w' → wpList P ops Q rest (a.put o.dst (.slice (some ⟨w.heap.size, 0, none⟩) 0 C.toNat)) w') :
    wpList P ops Q (o :: rest) a w := by
  obtain ⟨i, hi, hz0, hz1, hz2⟩ := info_parts E.hi
  have hC : C = (C.toNat : Int) := by omega
  refine wpList_make_own w hg l c t hop w.heap.size e i z size E.ht hi hz0 hz1 kl kc C C.toNat hl hc hC ?_ (by unfold maxLen; omega) (Nat.le_refl _) ?_
  · rw [hz2]
    have : ((bytes * C.toNat : Nat) : Int) ≤ 281474976710656 := by rw [Int.natCast_mul, ← hC]; exact hb
    omega
  · intro w' h1 h2
    exact hK w' h1 ((Below.refl _ _).grown h2 (Nat.le_refl _) (fun k hk => by simp at hk))

end Go.Proofs.Kit

/- A small kit, seventh part: append of zeros (make in an append). Over any program. -/
namespace Go.Proofs.Kit
open Go.RowKit

theorem zeroCells_one (z : Value) (n : Nat) : Builtin.zeroCells #[z] n = (List.replicate n z).toArray := by
  unfold Builtin.zeroCells
  apply Array.ext
  · simp
  · intro i h1 h2
    simp [Nat.mod_one]

theorem run_append_zeros_room {P : Program} (w : World) (t tn ty e : TypeId) (i : TypeInfo) (z : Value) (kq kn : IntKind) (ht : P.underlying t = some (.slice e)) (htn : P.underlying tn = some (.int kn)) (hi : P.info? e = some i) (hz : i.zero = some z) (hzc : z.cells = #[z]) (hsz : i.size = 1) (hz1 : z.oneCell' = true)
    (g n cap : Nat) (cur : Array Value) (hg : w.heap[g]? = some (.cells cur e (0, 0))) (k : Nat) (hroom : n + k ≤ cap) (hfit : n + k ≤ cur.size) (hk63 : (k : Int) ≤ 9223372036854775807) (h48 : k * i.bytes ≤ 281474976710656) :
    (Builtin.append_ #[t, tn] ty #[.slice (some ⟨g, 0, none⟩) n cap, .int kq k]).run P w =
      .ok (.slice (some ⟨g, 0, none⟩) (n + k) cap) (w.setRow g (cur.toList.take n ++ List.replicate k z ++ cur.toList.drop (n + k)).toArray) := by
  have hw : IntKind.i64.wrap (k : Int) = k := by rw [IntKind.wrap_i64]; omega
  have hneg : ¬ ((k : Int) < 0) := by omega
  have h48i : ¬ (281474976710656 < (k : Int) * (i.bytes : Int)) := by
    rw [← Int.natCast_mul]
    omega
  have hst := run_storeCells_at P g n e (List.replicate k z) 0 cur w hg (by simpa using hfit) (fun u hu => by rw [List.mem_replicate] at hu; rw [hu.2]; exact hz1)
  simp only [Nat.add_zero, List.length_replicate] at hst
  by_cases hk : k = 0
  · subst hk
    have hw0 : IntKind.i64.wrap 0 = 0 := by rw [IntKind.wrap_i64]; rfl
    have hroom0 : n ≤ cap := hroom
    simp [Builtin.append_, run_underlying ht, run_underlying htn, sizeOf, typeInfo, hi, hsz, asInt, asIntOf, hw0, hroom0, Addr.add_lit]
    simp at hst
    rw [hst]
    rfl
  · simp [Builtin.append_, run_underlying ht, run_underlying htn, sizeOf, typeInfo, zeroValue, hi, hz, hsz, asInt, asIntOf, hw, hneg, h48i, hroom, hk, hzc, zeroCells_one, Addr.add_lit, hst]

/-- append(s, make([]T, k)...), s nil or the call's own, T of one cell. -/
theorem append_zeros {P : Program} {t tn e : TypeId} {z : Value} {bytes : Nat} (E : ElemRow P t e z 1 bytes) {kn kq : IntKind} (htn : P.underlying tn = some (.int kn)) (hzc : z.cells = #[z]) (hz1 : z.oneCell' = true)
    {ops : Array Oper} {rest : List Oper} {o : Oper} {a : Act} {Q : Exit → Act → World → Prop} {w : World} (hgd : o.guard = none) {s x : Operand}
    (ho : o.op = .call { callee := .builtin .append, args := #[s, x], argTypes := #[t, tn] })
    {base : Nat} {v : Value} {n : Nat} {xs : List Value} (hown : w.ownsRow base e 1 v n xs)
    (hs : a.eval s = v) {k : Nat} (hx : a.eval x = .int kq k) (hn : (n + k) * bytes ≤ 140737488355328) (hn' : n + k ≤ 1000000000) (hbase : base ≤ w.heap.size)
    (h : ∀ v' w', w'.ownsRow base e 1 v' (n + k) (xs ++ List.replicate k z) → Below base w w' → wpList P ops Q rest (a.put o.dst v') w') :
    wpList P ops Q (o :: rest) a w := by
  obtain ⟨i, hi, hz0, hzs, hzb⟩ := info_parts E.hi
  subst hzb
  have hlen := hown.1
  rw [Nat.mul_one] at hlen
  have hkb : k * i.bytes ≤ 281474976710656 := by
    rw [Nat.add_mul] at hn
    omega
  have hmk : ∀ old ty, old < n + k → (w.drew.alloc (.cells (xs.toArray ++ Builtin.zeroCells z.cells k ++ Builtin.zeroCells z.cells (grownCap w (n + k) old ty - (n + k))) e)).ownsRow base e 1
        (.slice (some ⟨w.heap.size, 0, none⟩) (n + k) (grownCap w (n + k) old ty)) (n + k) (xs ++ List.replicate k z) ∧ Below base w (w.drew.alloc (.cells (xs.toArray ++ Builtin.zeroCells z.cells k ++ Builtin.zeroCells z.cells (grownCap w (n + k) old ty - (n + k))) e)) := by
    intro old ty ho
    have hge := grownCap_ge w (n + k) old ty
    have hcm := grownCap_le_maxLen w (n + k) old ty (by unfold maxLen; omega)
    refine ⟨⟨by rw [List.length_append, List.length_replicate, hlen, Nat.mul_one], .inr ⟨w.heap.size, _, _, rfl, hbase, heap_alloc_new w.drew _, hge, hcm, ?_, ?_⟩⟩, ((Below.refl _ _).drew).alloc hbase _⟩
    · rw [hzc, zeroCells_one, zeroCells_one]
      simp
      omega
    · rw [hzc, zeroCells_one, zeroCells_one]
      simp only [Array.toList_append, Nat.mul_one]
      rw [List.take_left' (by simp [hlen])]
  rcases hown.2 with ⟨rfl, rfl⟩ | ⟨g, cap, cur, rfl, hbg, hg, hnc, hcm, hcs, htake⟩
  · have hx0 : xs = [] := List.eq_nil_of_length_eq_zero hlen
    subst hx0
    by_cases hk : k = 0
    · subst hk
      have hr : (Builtin.append_ #[t, tn] o.type #[.slice none 0 0, .int kq (0 : Nat)]).run P w = .ok (.slice none 0 0) w := by
        have hw0 : IntKind.i64.wrap 0 = 0 := by rw [IntKind.wrap_i64]; rfl
        simp [Builtin.append_, run_underlying E.ht, run_underlying htn, sizeOf, typeInfo, hi, asInt, asIntOf, hw0]
      exact Lib.wpList_append_run w hgd s x t tn ho _ _ hs hx _ _ hr (h _ _ (World.ownsRow_nil _ _ _ _) (Below.refl _ _))
    · have hr := Lib.run_append_nil_zeros (P := P) w t tn o.type e i z kq kn E.ht htn hi hz0 k (by omega) (by rw [hzs]; omega) (by omega) hkb
      have hm := hmk 0 e (by omega)
      simp only [Nat.zero_add, List.nil_append, Array.empty_append] at hm h
      exact Lib.wpList_append_run w hgd s x t tn ho _ _ hs hx _ _ hr (h _ _ hm.1 hm.2)
  · by_cases hroom : n + k ≤ cap
    · have hcs' : cur.size = cap := by rw [hcs, Nat.mul_one]
      have hr := run_append_zeros_room (P := P) w t tn o.type e i z kq kn E.ht htn hi hz0 hzc hzs hz1 g n cap cur hg k hroom (by omega) (by omega) hkb
      refine Lib.wpList_append_run w hgd s x t tn ho _ _ hs hx _ _ hr (h _ _ ⟨by rw [List.length_append, List.length_replicate, hlen, Nat.mul_one], .inr ⟨g, cap, _, rfl, hbg, setRow_heap w g cur _ e _ hg, hroom, hcm, ?_, ?_⟩⟩ ?_)
      · simp only [List.size_toArray, List.length_append, List.length_take, List.length_drop, Array.length_toList, List.length_replicate]
        omega
      · rw [Nat.mul_one] at htake ⊢
        rw [htake, List.append_assoc]
        show List.take (n + k) (xs ++ (List.replicate k z ++ _)) = _
        rw [← List.append_assoc, List.take_left' (by simp [hlen])]
      · exact (Below.refl base w).grown (row := some g) ⟨rfl, rfl, rfl, by simp, fun j _ hj => setRow_other w g j _ (fun e => hj (by rw [e]))⟩ hbase (fun j hj => by obtain rfl := Option.some.inj hj; exact hbg)
    · have holds : (Builtin.firstCells i.size n (.slice (some ⟨g, 0, none⟩) n cap)).run P w.drew = .ok xs.toArray w.drew := by
        refine run_firstCells_some (P := P) w.drew i.size n ⟨g, 0, none⟩ n cap xs (by rw [hzs, Nat.mul_one]; exact hlen) ?_
        intro j u hj
        exact hown.cells (g := g) rfl j u hj
      have hr := Lib.run_append_grow_zeros (P := P) w t tn o.type e i z kq kn E.ht htn hi hz0 (some ⟨g, 0, none⟩) n cap xs holds k (by omega) (by rw [hzs]; omega) (by omega) (by omega) hkb (growslice_fits (by omega) hn)
      have hm := hmk cap e (by omega)
      exact Lib.wpList_append_run w hgd s x t tn ho _ _ hs hx _ _ hr (h _ _ hm.1 hm.2)

end Go.Proofs.Kit

/- Rows whose elements are read by a relation of one's own. Over any program. -/
namespace Go.Proofs.Kit
open Go.RowKit

/-- R is read off the blocks F alone. -/
def On (F : Nat → Prop) (R : World → Prop) (w : World) : Prop := ∀ w', (∀ b, F b → w'.heap[b]? = w.heap[b]?) → R w'
section
variable {F G : Nat → Prop} {R S : World → Prop} {w w' : World} {B B' : Nat}
theorem On.now (h : On F R w) : R w := h w fun _ _ => rfl
theorem On.mono (h : On F R w) (hF : ∀ b, F b → G b) : On G R w := fun w' hw => h w' fun b hb => hw b (hF b hb)
theorem On.step (h : On F R w) (hw : ∀ b, F b → w'.heap[b]? = w.heap[b]?) : On F R w' := fun w2 h2 => h w2 fun b hb => (h2 b hb).trans (hw b hb)
theorem On.imp (h : On F R w) (hR : ∀ w', R w' → S w') : On F S w := fun w' hw => hR w' (h w' hw)
theorem On.both (h : On F R w) (k : On F S w) : On F (fun w => R w ∧ S w) w := fun w' hw => ⟨h w' hw, k w' hw⟩

/-- R is read off blocks that were made from block B on. -/
def Made (B : Nat) (R : World → Prop) (w : World) : Prop := On (fun b => B ≤ b ∧ b < w.heap.size) R w
theorem Made.now (h : Made B R w) : R w := On.now h
theorem Made.mono (h : Made B R w) (hB : B' ≤ B) : Made B' R w := On.mono h fun _ hb => ⟨Nat.le_trans hB hb.1, hb.2⟩
theorem Made.keep (h : Made B R w) (hb : Below w.heap.size w w') : Made B R w' :=
  On.mono (On.step h fun b k => hb.block b k.2) fun _ k => ⟨k.1, Nat.lt_of_lt_of_le k.2 hb.size⟩
theorem Made.off (h : Made B R w) {o : Option Nat} (ho : ∀ g, o = some g → g < B) : On (fun b => B ≤ b ∧ b < w.heap.size ∧ o ≠ some b) R w :=
  On.mono h fun b hb => ⟨hb.1, hb.2, fun e => by have := ho b e; omega⟩
theorem Made.imp (h : Made B R w) (hR : ∀ w', R w' → S w') : Made B S w := On.imp h hR
theorem Made.both (h : Made B R w) (k : Made B S w) : Made B (fun w => R w ∧ S w) w := On.both h k
theorem Made.of_true (h : ∀ w, R w) : Made B R w := fun w' _ => h w'
end

/-- A row is read off its own block. -/
theorem RowAt.on_own {w : World} {v : Value} {cs : List Value} (h : RowAt w v cs) : On (fun b => v.ownBlock = some b) (fun w => RowAt w v cs) w :=
  fun _ hw => h.same fun b hb => hw b hb
theorem RowAt.block_lt {w : World} {v : Value} {cs : List Value} (h : RowAt w v cs) (hne : cs ≠ []) {b : Nat} (hb : v.ownBlock = some b) : b < w.heap.size := by
  rcases h.cases with ⟨h0, _⟩ | ⟨_, b', off, cap, rfl, _, _, hlt, _⟩
  · exact absurd h0 hne
  · have : b' = b := by simpa [Value.ownBlock] using hb
    omega
/-- A row that lies in blocks made from B on. -/
theorem RowAt.made {w : World} {v : Value} {cs : List Value} {B : Nat} (h : RowAt w v cs) (hB : ∀ b, v.ownBlock = some b → B ≤ b) : Made B (fun w => RowAt w v cs) w := by
  by_cases hne : cs = []
  · subst hne
    obtain ⟨p, cap, rfl, h1, h2, h3, h4⟩ := h
    exact fun w' _ => ⟨p, cap, rfl, h1, h2, h3, fun q _ i u hi => by simp at hi⟩
  · exact On.mono h.on_own fun b hb => ⟨hB b hb, h.block_lt hne hb⟩

/-- The cells of elements, one behind the other. -/
theorem flat_at {α : Type} {k : Nat} {css : List (List α)} (hk : ∀ c ∈ css, c.length = k) {i j : Nat} {c : List α} {u : α} (hi : css[i]? = some c) (hj : c[j]? = some u) :
    css.flatten[i * k + j]? = some u := by
  induction css generalizing i with
  | nil => simp at hi
  | cons d css ih =>
    have hd : d.length = k := hk d (by simp)
    rw [List.flatten_cons]
    cases i with
    | zero =>
      have e : d = c := by simpa using hi
      subst e
      rw [Nat.zero_mul, Nat.zero_add, List.getElem?_append_left (List.getElem?_eq_some_iff.1 hj).1]
      exact hj
    | succ i =>
      have h2 : css[i]? = some c := by simpa using hi
      rw [List.getElem?_append_right (by rw [hd, Nat.add_mul]; omega), hd, show (i + 1) * k + j - k = i * k + j by rw [Nat.add_mul]; omega]
      exact ih (fun c hc => hk c (by simp [hc])) h2
theorem flat_len {α : Type} {k : Nat} {css : List (List α)} (hk : ∀ c ∈ css, c.length = k) : css.flatten.length = css.length * k := by
  induction css with
  | nil => simp
  | cons d css ih =>
    rw [List.flatten_cons, List.length_append, ih (fun c hc => hk c (by simp [hc])), hk d (by simp), List.length_cons, Nat.add_mul]
    omega

/-- v is a slice of the elements l; an element takes k cells, which R reads. -/
def SliceOf {α : Type} (R : World → List Value → α → Prop) (k : Nat) (w : World) (v : Value) (l : List α) : Prop :=
  ∃ (css : List (List Value)) (p : Option Addr) (cap : Nat), v = .slice p l.length cap ∧ l.length ≤ cap ∧ cap ≤ 9223372036854775807 ∧ (p = none → cap = 0) ∧ css.length = l.length ∧ (∀ c ∈ css, c.length = k) ∧
    (∀ (q : Addr), p = some q → ∀ (i : Nat) (c : List Value) (j : Nat) (u : Value), css[i]? = some c → c[j]? = some u → w.cell? (q.add (i * k + j)) = some u) ∧ ∀ (i : Nat) (c : List Value) (x : α), css[i]? = some c → l[i]? = some x → R w c x

section
variable {α : Type} {R : World → List Value → α → Prop} {k : Nat} {w w' : World} {v : Value} {l : List α}
theorem SliceOf.nil (w : World) : SliceOf R k w (.slice none 0 0) ([] : List α) :=
  ⟨[], none, 0, rfl, Nat.le_refl _, by omega, fun _ => rfl, rfl, fun c hc => by simp at hc, fun q hq => by simp at hq, fun i c x hi => by simp at hi⟩
theorem SliceOf.shape (h : SliceOf R k w v l) : ∃ p cap, v = .slice p l.length cap ∧ l.length ≤ cap ∧ cap ≤ 9223372036854775807 := by
  obtain ⟨css, p, cap, rfl, h1, h2, _⟩ := h
  exact ⟨p, cap, rfl, h1, h2⟩
theorem SliceOf.len (h : SliceOf R k w v l) : l.length ≤ 9223372036854775807 := by
  obtain ⟨p, cap, _, h1, h2⟩ := h.shape
  omega
theorem SliceOf.keep (h : SliceOf R k w v l) (hb : Below w.heap.size w w') (hR : ∀ c x, R w c x → R w' c x) : SliceOf R k w' v l := by
  obtain ⟨css, p, cap, rfl, h1, h2, h3, h4, h5, h6, h7⟩ := h
  refine ⟨css, p, cap, rfl, h1, h2, h3, h4, h5, fun q hq i c j u hi hj => ?_, fun i c x hi hx => hR c x (h7 i c x hi hx)⟩
  have := h6 q hq i c j u hi hj
  exact (hb.cell (p := q.add (i * k + j)) (World.block_lt_of_cell? w _ this)).trans this
/-- The element at i. -/
theorem SliceOf.at_ (hk : 0 < k) (h : SliceOf R k w v l) {i : Nat} (hi : i < l.length) :
    ∃ b off cap c, v = .slice (some ⟨b, off, none⟩) l.length cap ∧ l.length ≤ cap ∧ cap ≤ 9223372036854775807 ∧ c.length = k ∧ R w c l[i] ∧ ∀ j u, c[j]? = some u → w.cell? ⟨b, off + (i * k + j), none⟩ = some u := by
  obtain ⟨css, p, cap, rfl, h1, h2, h3, h4, h5, h6, h7⟩ := h
  have hic : i < css.length := by omega
  have hc := List.getElem?_eq_getElem hic
  have hlen := h5 _ (List.getElem_mem hic)
  cases p with
  | none => have := h3 rfl; omega
  | some q =>
    obtain ⟨b, off, spot⟩ := q
    have h00 : 0 < css.length := by omega
    have h0 : 0 < (css[0]'h00).length := by rw [h5 _ (List.getElem_mem h00)]; exact hk
    have hcell := h6 _ rfl 0 _ 0 _ (List.getElem?_eq_getElem h00) (List.getElem?_eq_getElem h0)
    rw [Nat.zero_mul] at hcell
    have hspot : spot = none := by simpa [Addr.add] using World.cell?_spot hcell
    subst hspot
    refine ⟨b, off, cap, _, rfl, h1, h2, hlen, h7 i _ _ hc (List.getElem?_eq_getElem hi), fun j u hj => ?_⟩
    have := h6 _ rfl i _ j u hc hj
    rw [Addr.add_lit] at this
    exact this
end

/-- A list under construction: v owns a row in a block from base on; each element is read off blocks from B on, none of them v's own. -/
structure Lst {α : Type} (R : World → List Value → α → Prop) (B base : Nat) (e : TypeId) (k : Nat) (v : Value) (w : World) (l : List α) (css : List (List Value)) : Prop where
  own : w.ownsRow base e k v l.length css.flatten
  len : css.length = l.length
  siz : ∀ c ∈ css, c.length = k
  elt : ∀ (i : Nat) (c : List Value) (x : α), css[i]? = some c → l[i]? = some x → On (fun b => B ≤ b ∧ b < w.heap.size ∧ v.ownBlock ≠ some b) (fun w => R w c x) w

section
variable {α : Type} {R : World → List Value → α → Prop} {B base k : Nat} {e : TypeId} {w w' : World} {v v' : Value} {l : List α} {css : List (List Value)}
theorem Lst.nil (w : World) : Lst R B base e k (.slice none 0 0) w ([] : List α) [] :=
  ⟨World.ownsRow_nil _ _ _ _, rfl, fun c hc => by simp at hc, fun i c x hi => by simp at hi⟩
theorem Lst.keep (h : Lst R B base e k v w l css) (hb : Below w.heap.size w w') : Lst R B base e k v w' l css :=
  ⟨ownsRow_below h.own hb, h.len, h.siz, fun i c x hi hx => On.mono (On.step (h.elt i c x hi hx) fun b hb' => hb.block b hb'.2.1) fun _ hb' => ⟨hb'.1, Nat.lt_of_lt_of_le hb'.2.1 hb.size, hb'.2.2⟩⟩
theorem Lst.push (h : Lst R B base e k v w l css) {c : List Value} {x : α} (hc : c.length = k) (hx : On (fun b => B ≤ b ∧ b < w.heap.size ∧ v.ownBlock ≠ some b) (fun w => R w c x) w)
    (hown : w'.ownsRow base e k v' (l.length + 1) (css.flatten ++ c)) (hg : w.grownBy w' v.ownBlock) (hv : v'.ownBlock = v.ownBlock ∨ ∃ g, v'.ownBlock = some g ∧ w.heap.size ≤ g) :
    Lst R B base e k v' w' (l ++ [x]) (css ++ [c]) := by
  have hF : ∀ {S : World → Prop}, On (fun b => B ≤ b ∧ b < w.heap.size ∧ v.ownBlock ≠ some b) S w → On (fun b => B ≤ b ∧ b < w'.heap.size ∧ v'.ownBlock ≠ some b) S w' := fun hS =>
    On.mono (On.step hS fun b hb => hg.block b hb.2.1 (fun e => hb.2.2 e.symm)) fun b hb => ⟨hb.1, Nat.lt_of_lt_of_le hb.2.1 hg.size, fun e => by
      rcases hv with hv | ⟨g, hv, hgl⟩
      · exact hb.2.2 (hv.symm.trans e)
      · rw [hv] at e
        have := Option.some.inj e
        have := hb.2.1
        omega⟩
  refine ⟨?_, by simp [h.len], fun c' hc' => ?_, fun i c' x' hi hx' => ?_⟩
  · rw [List.length_append, List.length_singleton]
    simpa using hown
  · rcases List.mem_append.1 hc' with hm | hm
    · exact h.siz c' hm
    · rw [List.mem_singleton.1 hm]; exact hc
  · by_cases hlt : i < css.length
    · rw [List.getElem?_append_left hlt] at hi
      rw [List.getElem?_append_left (by have := h.len; omega)] at hx'
      exact hF (h.elt i c' x' hi hx')
    · have hi2 := (List.getElem?_eq_some_iff.1 hi).1
      rw [List.length_append, List.length_singleton] at hi2
      have hii : i = css.length := by omega
      subst hii
      rw [List.getElem?_append_right (Nat.le_refl _), Nat.sub_self] at hi
      rw [h.len, List.getElem?_append_right (Nat.le_refl _), Nat.sub_self] at hx'
      have e1 : c = c' := by simpa using hi
      have e2 : x = x' := by simpa using hx'
      subst e1; subst e2
      exact hF hx
/-- It reads. -/
theorem Lst.slice (h : Lst R B base e k v w l css) : SliceOf R k w v l := by
  obtain ⟨h1, h2, h3, h4⟩ := h
  have hel : ∀ i c x, css[i]? = some c → l[i]? = some x → R w c x := fun i c x hi hx => (h4 i c x hi hx).now
  rcases h1.2 with ⟨rfl, hn⟩ | ⟨g, cap, cur, rfl, hg, hgg, hc, hm, hs, ht⟩
  · have : l = [] := List.eq_nil_of_length_eq_zero hn
    subst this
    exact SliceOf.nil w
  · refine ⟨css, _, cap, rfl, hc, by unfold maxLen at hm; omega, fun hh => by simp at hh, h2, h3, fun q hq i c j u hi hj => ?_, hel⟩
    obtain rfl := Option.some.inj hq
    have hf := flat_at h3 hi hj
    rw [Addr.add_lit, Nat.zero_add, cell_of_row w g _ cur e (0, 0) hgg]
    rw [← ht, List.getElem?_take] at hf
    split at hf
    · simpa using hf
    · simp at hf
/-- It is read off blocks from B' on. -/
theorem Lst.made (h : Lst R B base e k v w l css) {B' : Nat} (h1 : B' ≤ B) (h2 : B' ≤ base) : Made B' (fun w => SliceOf R k w v l) w := by
  intro w' hw
  have hown : w'.ownsRow base e k v l.length css.flatten := by
    refine ⟨h.own.1, ?_⟩
    rcases h.own.2 with hn | ⟨g, cap, cur, rfl, hg, hgg, rest⟩
    · exact .inl hn
    · refine .inr ⟨g, cap, cur, rfl, hg, ?_, rest⟩
      rw [hw g ⟨Nat.le_trans h2 hg, (Array.getElem?_eq_some_iff.1 hgg).1⟩]
      exact hgg
  have hs := h.slice
  obtain ⟨css', p, cap, e1, s1, s2, s3, s4, s5, s6, s7⟩ := Lst.slice (w := w') (R := fun _ _ _ => True) (B := 0) (base := base) (e := e) (k := k) (v := v) (l := l) (css := css) ⟨hown, h.len, h.siz, fun _ _ _ _ _ _ _ => trivial⟩
  rcases hown.2 with ⟨rfl, hn⟩ | ⟨g, cap', cur, rfl, hg, hgg, hc, hm, hsz, ht⟩
  · have : l = [] := List.eq_nil_of_length_eq_zero hn
    subst this
    exact SliceOf.nil w'
  · refine ⟨css, _, cap', rfl, hc, by unfold maxLen at hm; omega, fun hh => by simp at hh, h.len, h.siz, fun q hq i c j u hi hj => ?_, fun i c x hi hx => ?_⟩
    · obtain rfl := Option.some.inj hq
      have hf := flat_at h.siz hi hj
      rw [Addr.add_lit, Nat.zero_add, cell_of_row w' g _ cur e (0, 0) hgg]
      rw [← ht, List.getElem?_take] at hf
      split at hf
      · simpa using hf
      · simp at hf
    · exact h.elt i c x hi hx w' fun b hb => hw b ⟨Nat.le_trans h1 hb.1, hb.2.1⟩
theorem Lst.lt (h : Lst R B base e k v w l css) : ∀ g, v.ownBlock = some g → base ≤ g ∧ g < w.heap.size := fun g hg => h.own.lt g hg
end

section
variable {P : Program} {t e : TypeId} {z : Value} {k bytes : Nat} {α : Type} {R : World → List Value → α → Prop} {B base : Nat} {v : Value} {l : List α} {css : List (List Value)}
/-- append(s, x), x one element just laid in a new block. -/
theorem append_lst (E : ElemRow P t e z k bytes)
    {ops : Array Oper} {rest : List Oper} {o : Oper} {a : Act} {Q : Exit → Act → World → Prop} (hgd : o.guard = none) {s x : Operand}
    (ho : o.op = .call { callee := .builtin .append, args := #[s, x], argTypes := #[t, t] })
    {w : World} {cs : Array Value} {e' : TypeId} {fz : Nat × Nat} (hL : Lst R B base e k v w l css)
    (hs : a.eval s = v) (hx : a.eval x = .slice (some ⟨w.heap.size, 0, none⟩) 1 1)
    (hl : cs.size = k) (h1 : ∀ u ∈ cs.toList, u.oneCell' = true) (hn : (l.length + 1) * bytes ≤ 140737488355328) (hn' : l.length + 1 ≤ 9223372036854775807) (hbase : base ≤ w.heap.size)
    {y : α} (hy : On (fun b => B ≤ b ∧ b < w.heap.size ∧ v.ownBlock ≠ some b) (fun w => R w cs.toList y) w)
    (h : ∀ v' w', Lst R B base e k v' w' (l ++ [y]) (css ++ [cs.toList]) → Below base w w' → w.grownBy w' v.ownBlock → (v'.ownBlock = v.ownBlock ∨ ∃ g, v'.ownBlock = some g ∧ w.heap.size ≤ g) → wpList P ops Q rest (a.put o.dst v') w') :
    wpList P ops Q (o :: rest) a (w.alloc (.cells cs e' fz)) := by
  refine append_fresh E hgd ho hL.own hs hx hl h1 hn hn' hbase fun v' w' h2 h3 h4 h5 h6 => ?_
  exact h v' w' (hL.push (by rw [Array.length_toList]; exact hl) hy h2 h3 h6) h4 h3 h6

/-- The same at a step of a region that draws its order. -/
theorem step_append_lst (E : ElemRow P t e z k bytes)
    {ops : Array Oper} {o : Oper} {a : Act} {K : Act → World → Prop} {Q : Exit → Act → World → Prop} {E0 : Prop} (hgd : o.guard = none) {s x : Operand}
    (ho : o.op = .call { callee := .builtin .append, args := #[s, x], argTypes := #[t, t] })
    {w : World} {ad : Addr} {cap : Nat} {c : List Value} (hL : Lst R B base e k v w l css)
    (hs : a.eval s = v) (hx : a.eval x = .slice (some ad) 1 cap) (hc : ∀ j u, c[j]? = some u → w.cell? (ad.add j) = some u)
    (hl : c.length = k) (h1 : ∀ u ∈ c, u.oneCell' = true) (hn : (l.length + 1) * bytes ≤ 140737488355328) (hn' : l.length + 1 ≤ 9223372036854775807) (hbase : base ≤ w.heap.size)
    {y : α} (hy : On (fun b => B ≤ b ∧ b < w.heap.size ∧ v.ownBlock ≠ some b) (fun w => R w c y) w)
    (h : ∀ v' w', Lst R B base e k v' w' (l ++ [y]) (css ++ [c]) → Below base w w' → w.grownBy w' v.ownBlock → (v'.ownBlock = v.ownBlock ∨ ∃ g, v'.ownBlock = some g ∧ w.heap.size ≤ g) → K (a.put o.dst v') w') :
    if Region.wanted o (yielded ops a.tmps) = true then Oper.wp P o a w K Q else E0 := by
  obtain ⟨i, hi, hz0, hz1, hz2⟩ := info_parts E.hi
  refine step_append_lies w hgd s x t ho base e i z k bytes E.ht hi hz0 hz1 hz2 E.hzs E.hsz v l.length css.flatten hs hL.own ad 1 cap c hx (by rw [hl, Nat.one_mul]) hc h1 (by omega) (by unfold maxLen; omega) hn hbase _ rfl fun g cp w' h2 h3 h4 h5 => ?_
  have hv : (Value.slice (some ⟨g, 0, none⟩) (l.length + 1) cp).ownBlock = v.ownBlock ∨ ∃ g', (Value.slice (some ⟨g, 0, none⟩) (l.length + 1) cp).ownBlock = some g' ∧ w.heap.size ≤ g' := by
    rcases h4 with h4 | h4
    · exact .inl (by rw [h4]; rfl)
    · exact .inr ⟨g, rfl, by omega⟩
  exact h _ w' (hL.push hl hy h2 h3 hv) ((Below.refl base w).grown h3 hbase fun g' hg' => (hL.lt g' hg').1) h3 hv
end

end Go.Proofs.Kit
