import Derived.Test.YthdcgplocdehjaaGK
import Derived.Deep.AppendLies
import Derived.Deep.RegionLaw
import Derived.Test.YthdcgplocdehjaaZB
import Derived.Test.YthdcgplocdehjaaZC
import Derived.Deep.RegionHeld3
import Derived.Deep.DeepCutAuto
import Derived.Deep.CutBlock
/- Rows whose elements are read by a relation of one's own. Over any program. -/
namespace Go.Proofs.Kit
open Go.RowKit

/-- R is read off the blocks F alone. -/
def On (F : Nat → Prop) (R : World → Prop) (w : World) : Prop := ∀ w', (∀ b, F b → w'.heap[b]? = w.heap[b]?) → R w'
section
variable {F G : Nat → Prop} {R S : World → Prop} {w w' : World} {B B' : Nat}
theorem On.now (h : On F R w) : R w := h w fun _ _ => rfl
theorem On.mono (h : On F R w) (hF : ∀ b, F b → G b) : On G R w := fun w' hw => h w' fun b hb => hw b (hF b hb)
theorem On.step (h : On F R w) (hw : ∀ b, F b → w'.heap[b]? = w.heap[b]?) : On F R w' := fun w2 h2 => h w2 fun b hb => (h2 b hb).trans (hw b hb)
theorem On.imp (h : On F R w) (hR : ∀ w', R w' → S w') : On F S w := fun w' hw => hR w' (h w' hw)
theorem On.both (h : On F R w) (k : On F S w) : On F (fun w => R w ∧ S w) w := fun w' hw => ⟨h w' hw, k w' hw⟩

/-- R is read off blocks that were made from block B on. -/
def Made (B : Nat) (R : World → Prop) (w : World) : Prop := On (fun b => B ≤ b ∧ b < w.heap.size) R w
theorem Made.now (h : Made B R w) : R w := On.now h
theorem Made.mono (h : Made B R w) (hB : B' ≤ B) : Made B' R w := On.mono h fun _ hb => ⟨Nat.le_trans hB hb.1, hb.2⟩
theorem Made.keep (h : Made B R w) (hb : Below w.heap.size w w') : Made B R w' :=
  On.mono (On.step h fun b k => hb.block b k.2) fun _ k => ⟨k.1, Nat.lt_of_lt_of_le k.2 hb.size⟩
theorem Made.off (h : Made B R w) {o : Option Nat} (ho : ∀ g, o = some g → g < B) : On (fun b => B ≤ b ∧ b < w.heap.size ∧ o ≠ some b) R w :=
  On.mono h fun b hb => ⟨hb.1, hb.2, fun e => by have := ho b e; omega⟩
theorem Made.imp (h : Made B R w) (hR : ∀ w', R w' → S w') : Made B S w := On.imp h hR
theorem Made.both (h : Made B R w) (k : Made B S w) : Made B (fun w => R w ∧ S w) w := On.both h k
theorem Made.of_true (h : ∀ w, R w) : Made B R w := fun w' _ => h w'
end

/-- A row is read off its own block. -/
theorem RowAt.on_own {w : World} {v : Value} {cs : List Value} (h : RowAt w v cs) : On (fun b => v.ownBlock = some b) (fun w => RowAt w v cs) w :=
  fun _ hw => h.same fun b hb => hw b hb
theorem RowAt.block_lt {w : World} {v : Value} {cs : List Value} (h : RowAt w v cs) (hne : cs ≠ []) {b : Nat} (hb : v.ownBlock = some b) : b < w.heap.size := by
  rcases h.cases with ⟨h0, _⟩ | ⟨_, b', off, cap, rfl, _, _, hlt, _⟩
  · exact absurd h0 hne
  · have : b' = b := by simpa [Value.ownBlock] using hb
    omega
/-- A row that lies in blocks made from B on. -/
theorem RowAt.made {w : World} {v : Value} {cs : List Value} {B : Nat} (h : RowAt w v cs) (hB : ∀ b, v.ownBlock = some b → B ≤ b) : Made B (fun w => RowAt w v cs) w := by
  by_cases hne : cs = []
  · subst hne
    obtain ⟨p, cap, rfl, h1, h2, h3, h4⟩ := h
    exact fun w' _ => ⟨p, cap, rfl, h1, h2, h3, fun q _ i u hi => by simp at hi⟩
  · exact On.mono h.on_own fun b hb => ⟨hB b hb, h.block_lt hne hb⟩

/-- The cells of elements, one behind the other. -/
theorem flat_at {α : Type} {k : Nat} {css : List (List α)} (hk : ∀ c ∈ css, c.length = k) {i j : Nat} {c : List α} {u : α} (hi : css[i]? = some c) (hj : c[j]? = some u) :
    css.flatten[i * k + j]? = some u := by
  induction css generalizing i with
  | nil => simp at hi
  | cons d css ih =>
    have hd : d.length = k := hk d (by simp)
    rw [List.flatten_cons]
    cases i with
    | zero =>
      have e : d = c := by simpa using hi
      subst e
      rw [Nat.zero_mul, Nat.zero_add, List.getElem?_append_left (List.getElem?_eq_some_iff.1 hj).1]
      exact hj
    | succ i =>
      have h2 : css[i]? = some c := by simpa using hi
      rw [List.getElem?_append_right (by rw [hd, Nat.add_mul]; omega), hd, show (i + 1) * k + j - k = i * k + j by rw [Nat.add_mul]; omega]
      exact ih (fun c hc => hk c (by simp [hc])) h2
theorem flat_len {α : Type} {k : Nat} {css : List (List α)} (hk : ∀ c ∈ css, c.length = k) : css.flatten.length = css.length * k := by
  induction css with
  | nil => simp
  | cons d css ih =>
    rw [List.flatten_cons, List.length_append, ih (fun c hc => hk c (by simp [hc])), hk d (by simp), List.length_cons, Nat.add_mul]
    omega

/-- v is a slice of the elements l; an element takes k cells, which R reads. -/
def SliceOf {α : Type} (R : World → List Value → α → Prop) (k : Nat) (w : World) (v : Value) (l : List α) : Prop :=
  ∃ (css : List (List Value)) (p : Option Addr) (cap : Nat), v = .slice p l.length cap ∧ l.length ≤ cap ∧ cap ≤ 9223372036854775807 ∧ (p = none → cap = 0) ∧ css.length = l.length ∧ (∀ c ∈ css, c.length = k) ∧
    (∀ (q : Addr), p = some q → ∀ (i : Nat) (c : List Value) (j : Nat) (u : Value), css[i]? = some c → c[j]? = some u → w.cell? (q.add (i * k + j)) = some u) ∧ ∀ (i : Nat) (c : List Value) (x : α), css[i]? = some c → l[i]? = some x → R w c x

section
variable {α : Type} {R : World → List Value → α → Prop} {k : Nat} {w w' : World} {v : Value} {l : List α}
theorem SliceOf.nil (w : World) : SliceOf R k w (.slice none 0 0) ([] : List α) :=
  ⟨[], none, 0, rfl, Nat.le_refl _, by omega, fun _ => rfl, rfl, fun c hc => by simp at hc, fun q hq => by simp at hq, fun i c x hi => by simp at hi⟩
theorem SliceOf.shape (h : SliceOf R k w v l) : ∃ p cap, v = .slice p l.length cap ∧ l.length ≤ cap ∧ cap ≤ 9223372036854775807 := by
  obtain ⟨css, p, cap, rfl, h1, h2, _⟩ := h
  exact ⟨p, cap, rfl, h1, h2⟩
theorem SliceOf.len (h : SliceOf R k w v l) : l.length ≤ 9223372036854775807 := by
  obtain ⟨p, cap, _, h1, h2⟩ := h.shape
  omega
theorem SliceOf.keep (h : SliceOf R k w v l) (hb : Below w.heap.size w w') (hR : ∀ c x, R w c x → R w' c x) : SliceOf R k w' v l := by
  obtain ⟨css, p, cap, rfl, h1, h2, h3, h4, h5, h6, h7⟩ := h
  refine ⟨css, p, cap, rfl, h1, h2, h3, h4, h5, fun q hq i c j u hi hj => ?_, fun i c x hi hx => hR c x (h7 i c x hi hx)⟩
  have := h6 q hq i c j u hi hj
  exact (hb.cell (p := q.add (i * k + j)) (World.block_lt_of_cell? w _ this)).trans this
/-- The element at i. -/
theorem SliceOf.at_ (hk : 0 < k) (h : SliceOf R k w v l) {i : Nat} (hi : i < l.length) :
    ∃ b off cap c, v = .slice (some ⟨b, off, none⟩) l.length cap ∧ l.length ≤ cap ∧ cap ≤ 9223372036854775807 ∧ c.length = k ∧ R w c l[i] ∧ ∀ j u, c[j]? = some u → w.cell? ⟨b, off + (i * k + j), none⟩ = some u := by
  obtain ⟨css, p, cap, rfl, h1, h2, h3, h4, h5, h6, h7⟩ := h
  have hic : i < css.length := by omega
  have hc := List.getElem?_eq_getElem hic
  have hlen := h5 _ (List.getElem_mem hic)
  cases p with
  | none => have := h3 rfl; omega
  | some q =>
    obtain ⟨b, off, spot⟩ := q
    have h00 : 0 < css.length := by omega
    have h0 : 0 < (css[0]'h00).length := by rw [h5 _ (List.getElem_mem h00)]; exact hk
    have hcell := h6 _ rfl 0 _ 0 _ (List.getElem?_eq_getElem h00) (List.getElem?_eq_getElem h0)
    rw [Nat.zero_mul] at hcell
    have hspot : spot = none := by simpa [Addr.add] using World.cell?_spot hcell
    subst hspot
    refine ⟨b, off, cap, _, rfl, h1, h2, hlen, h7 i _ _ hc (List.getElem?_eq_getElem hi), fun j u hj => ?_⟩
    have := h6 _ rfl i _ j u hc hj
    rw [Addr.add_lit] at this
    exact this
end

/-- A list under construction: v owns a row in a block from base on; each element is read off blocks from B on, none of them v's own. -/
structure Lst {α : Type} (R : World → List Value → α → Prop) (B base : Nat) (e : TypeId) (k : Nat) (v : Value) (w : World) (l : List α) (css : List (List Value)) : Prop where
  own : w.ownsRow base e k v l.length css.flatten
  len : css.length = l.length
  siz : ∀ c ∈ css, c.length = k
  elt : ∀ (i : Nat) (c : List Value) (x : α), css[i]? = some c → l[i]? = some x → On (fun b => B ≤ b ∧ b < w.heap.size ∧ v.ownBlock ≠ some b) (fun w => R w c x) w

section
variable {α : Type} {R : World → List Value → α → Prop} {B base k : Nat} {e : TypeId} {w w' : World} {v v' : Value} {l : List α} {css : List (List Value)}
theorem Lst.nil (w : World) : Lst R B base e k (.slice none 0 0) w ([] : List α) [] :=
  ⟨World.ownsRow_nil _ _ _ _, rfl, fun c hc => by simp at hc, fun i c x hi => by simp at hi⟩
theorem Lst.keep (h : Lst R B base e k v w l css) (hb : Below w.heap.size w w') : Lst R B base e k v w' l css :=
  ⟨ownsRow_below h.own hb, h.len, h.siz, fun i c x hi hx => On.mono (On.step (h.elt i c x hi hx) fun b hb' => hb.block b hb'.2.1) fun _ hb' => ⟨hb'.1, Nat.lt_of_lt_of_le hb'.2.1 hb.size, hb'.2.2⟩⟩
theorem Lst.push (h : Lst R B base e k v w l css) {c : List Value} {x : α} (hc : c.length = k) (hx : On (fun b => B ≤ b ∧ b < w.heap.size ∧ v.ownBlock ≠ some b) (fun w => R w c x) w)
    (hown : w'.ownsRow base e k v' (l.length + 1) (css.flatten ++ c)) (hg : w.grownBy w' v.ownBlock) (hv : v'.ownBlock = v.ownBlock ∨ ∃ g, v'.ownBlock = some g ∧ w.heap.size ≤ g) :
    Lst R B base e k v' w' (l ++ [x]) (css ++ [c]) := by
  have hF : ∀ {S : World → Prop}, On (fun b => B ≤ b ∧ b < w.heap.size ∧ v.ownBlock ≠ some b) S w → On (fun b => B ≤ b ∧ b < w'.heap.size ∧ v'.ownBlock ≠ some b) S w' := fun hS =>
    On.mono (On.step hS fun b hb => hg.block b hb.2.1 (fun e => hb.2.2 e.symm)) fun b hb => ⟨hb.1, Nat.lt_of_lt_of_le hb.2.1 hg.size, fun e => by
      rcases hv with hv | ⟨g, hv, hgl⟩
      · exact hb.2.2 (hv.symm.trans e)
      · rw [hv] at e
        have := Option.some.inj e
        have := hb.2.1
        omega⟩
  refine ⟨?_, by simp [h.len], fun c' hc' => ?_, fun i c' x' hi hx' => ?_⟩
  · rw [List.length_append, List.length_singleton]
    simpa using hown
  · rcases List.mem_append.1 hc' with hm | hm
    · exact h.siz c' hm
    · rw [List.mem_singleton.1 hm]; exact hc
  · by_cases hlt : i < css.length
    · rw [List.getElem?_append_left hlt] at hi
      rw [List.getElem?_append_left (by have := h.len; omega)] at hx'
      exact hF (h.elt i c' x' hi hx')
    · have hi2 := (List.getElem?_eq_some_iff.1 hi).1
      rw [List.length_append, List.length_singleton] at hi2
      have hii : i = css.length := by omega
      subst hii
      rw [List.getElem?_append_right (Nat.le_refl _), Nat.sub_self] at hi
      rw [h.len, List.getElem?_append_right (Nat.le_refl _), Nat.sub_self] at hx'
      have e1 : c = c' := by simpa using hi
      have e2 : x = x' := by simpa using hx'
      subst e1; subst e2
      exact hF hx
/-- It reads. -/
theorem Lst.slice (h : Lst R B base e k v w l css) : SliceOf R k w v l := by
  obtain ⟨h1, h2, h3, h4⟩ := h
  have hel : ∀ i c x, css[i]? = some c → l[i]? = some x → R w c x := fun i c x hi hx => (h4 i c x hi hx).now
  rcases h1.2 with ⟨rfl, hn⟩ | ⟨g, cap, cur, rfl, hg, hgg, hc, hm, hs, ht⟩
  · have : l = [] := List.eq_nil_of_length_eq_zero hn
    subst this
    exact SliceOf.nil w
  · refine ⟨css, _, cap, rfl, hc, by unfold maxLen at hm; omega, fun hh => by simp at hh, h2, h3, fun q hq i c j u hi hj => ?_, hel⟩
    obtain rfl := Option.some.inj hq
    have hf := flat_at h3 hi hj
    rw [Addr.add_lit, Nat.zero_add, cell_of_row w g _ cur e (0, 0) hgg]
    rw [← ht, List.getElem?_take] at hf
    split at hf
    · simpa using hf
    · simp at hf
/-- It is read off blocks from B' on. -/
theorem Lst.made (h : Lst R B base e k v w l css) {B' : Nat} (h1 : B' ≤ B) (h2 : B' ≤ base) : Made B' (fun w => SliceOf R k w v l) w := by
  intro w' hw
  have hown : w'.ownsRow base e k v l.length css.flatten := by
    refine ⟨h.own.1, ?_⟩
    rcases h.own.2 with hn | ⟨g, cap, cur, rfl, hg, hgg, rest⟩
    · exact .inl hn
    · refine .inr ⟨g, cap, cur, rfl, hg, ?_, rest⟩
      rw [hw g ⟨Nat.le_trans h2 hg, (Array.getElem?_eq_some_iff.1 hgg).1⟩]
      exact hgg
  have hs := h.slice
  obtain ⟨css', p, cap, e1, s1, s2, s3, s4, s5, s6, s7⟩ := Lst.slice (w := w') (R := fun _ _ _ => True) (B := 0) (base := base) (e := e) (k := k) (v := v) (l := l) (css := css) ⟨hown, h.len, h.siz, fun _ _ _ _ _ _ _ => trivial⟩
  rcases hown.2 with ⟨rfl, hn⟩ | ⟨g, cap', cur, rfl, hg, hgg, hc, hm, hsz, ht⟩
  · have : l = [] := List.eq_nil_of_length_eq_zero hn
    subst this
    exact SliceOf.nil w'
  · refine ⟨css, _, cap', rfl, hc, by unfold maxLen at hm; omega, fun hh => by simp at hh, h.len, h.siz, fun q hq i c j u hi hj => ?_, fun i c x hi hx => ?_⟩
    · obtain rfl := Option.some.inj hq
      have hf := flat_at h.siz hi hj
      rw [Addr.add_lit, Nat.zero_add, cell_of_row w' g _ cur e (0, 0) hgg]
      rw [← ht, List.getElem?_take] at hf
      split at hf
      · simpa using hf
      · simp at hf
    · exact h.elt i c x hi hx w' fun b hb => hw b ⟨Nat.le_trans h1 hb.1, hb.2.1⟩
theorem Lst.lt (h : Lst R B base e k v w l css) : ∀ g, v.ownBlock = some g → base ≤ g ∧ g < w.heap.size := fun g hg => h.own.lt g hg
end

section
variable {P : Program} {t e : TypeId} {z : Value} {k bytes : Nat} {α : Type} {R : World → List Value → α → Prop} {B base : Nat} {v : Value} {l : List α} {css : List (List Value)}
/-- append(s, x), x one element just laid in a new block. -/
theorem append_lst (E : ElemRow P t e z k bytes)
    {ops : Array Oper} {rest : List Oper} {o : Oper} {a : Act} {Q : Exit → Act → World → Prop} (hgd : o.guard = none) {s x : Operand}
    (ho : o.op = .call { callee := .builtin .append, args := #[s, x], argTypes := #[t, t] })
    {w : World} {cs : Array Value} {e' : TypeId} {fz : Nat × Nat} (hL : Lst R B base e k v w l css)
    (hs : a.eval s = v) (hx : a.eval x = .slice (some ⟨w.heap.size, 0, none⟩) 1 1)
    (hl : cs.size = k) (h1 : ∀ u ∈ cs.toList, u.oneCell' = true) (hn : (l.length + 1) * bytes ≤ 140737488355328) (hn' : l.length + 1 ≤ 9223372036854775807) (hbase : base ≤ w.heap.size)
    {y : α} (hy : On (fun b => B ≤ b ∧ b < w.heap.size ∧ v.ownBlock ≠ some b) (fun w => R w cs.toList y) w)
    (h : ∀ v' w', Lst R B base e k v' w' (l ++ [y]) (css ++ [cs.toList]) → Below base w w' → w.grownBy w' v.ownBlock → (v'.ownBlock = v.ownBlock ∨ ∃ g, v'.ownBlock = some g ∧ w.heap.size ≤ g) → wpList P ops Q rest (a.put o.dst v') w') :
    wpList P ops Q (o :: rest) a (w.alloc (.cells cs e' fz)) := by
  refine append_fresh E hgd ho hL.own hs hx hl h1 hn hn' hbase fun v' w' h2 h3 h4 h5 h6 => ?_
  exact h v' w' (hL.push (by rw [Array.length_toList]; exact hl) hy h2 h3 h6) h4 h3 h6

/-- The same at a step of a region that draws its order. -/
theorem step_append_lst (E : ElemRow P t e z k bytes)
    {ops : Array Oper} {o : Oper} {a : Act} {K : Act → World → Prop} {Q : Exit → Act → World → Prop} {E0 : Prop} (hgd : o.guard = none) {s x : Operand}
    (ho : o.op = .call { callee := .builtin .append, args := #[s, x], argTypes := #[t, t] })
    {w : World} {ad : Addr} {cap : Nat} {c : List Value} (hL : Lst R B base e k v w l css)
    (hs : a.eval s = v) (hx : a.eval x = .slice (some ad) 1 cap) (hc : ∀ j u, c[j]? = some u → w.cell? (ad.add j) = some u)
    (hl : c.length = k) (h1 : ∀ u ∈ c, u.oneCell' = true) (hn : (l.length + 1) * bytes ≤ 140737488355328) (hn' : l.length + 1 ≤ 9223372036854775807) (hbase : base ≤ w.heap.size)
    {y : α} (hy : On (fun b => B ≤ b ∧ b < w.heap.size ∧ v.ownBlock ≠ some b) (fun w => R w c y) w)
    (h : ∀ v' w', Lst R B base e k v' w' (l ++ [y]) (css ++ [c]) → Below base w w' → w.grownBy w' v.ownBlock → (v'.ownBlock = v.ownBlock ∨ ∃ g, v'.ownBlock = some g ∧ w.heap.size ≤ g) → K (a.put o.dst v') w') :
    if Region.wanted o (yielded ops a.tmps) = true then Oper.wp P o a w K Q else E0 := by
  obtain ⟨i, hi, hz0, hz1, hz2⟩ := info_parts E.hi
  refine step_append_lies w hgd s x t ho base e i z k bytes E.ht hi hz0 hz1 hz2 E.hzs E.hsz v l.length css.flatten hs hL.own ad 1 cap c hx (by rw [hl, Nat.one_mul]) hc h1 (by omega) (by unfold maxLen; omega) hn hbase _ rfl fun g cp w' h2 h3 h4 h5 => ?_
  have hv : (Value.slice (some ⟨g, 0, none⟩) (l.length + 1) cp).ownBlock = v.ownBlock ∨ ∃ g', (Value.slice (some ⟨g, 0, none⟩) (l.length + 1) cp).ownBlock = some g' ∧ w.heap.size ≤ g' := by
    rcases h4 with h4 | h4
    · exact .inl (by rw [h4]; rfl)
    · exact .inr ⟨g, rfl, by omega⟩
  exact h _ w' (hL.push hl hy h2 h3 hv) ((Below.refl base w).grown h3 hbase fun g' hg' => (hL.lt g' hg').1) h3 hv
end

end Go.Proofs.Kit

/- The parser: its state, its test. -/
namespace Go.Proofs.Ythdcgplocdehjaa
open Go.RowKit Go.Proofs.Kit

/-- The state of a parser: the next token, and the line of the fault (0: none). -/
structure St where
  i : Nat
  f : Nat
def tok0 : Tok := (0, [], 0)
def tk (T : List Tok) (i : Nat) : Tok := T.getD i tok0
def isP (T : List Tok) (s : St) (kind : Int) (text : List UInt8) : Bool := s.f == 0 && ((tk T s.i).1 == kind) && (text.isEmpty || ((tk T s.i).2.1 == text))
def nextP (s : St) (kind : Int) : St := if kind = 5 then s else ⟨s.i + 1, s.f⟩
def failP (T : List Tok) (s : St) : St := if s.f = 0 then ⟨s.i, (tk T s.i).2.2⟩ else s
def takeT (T : List Tok) (s : St) (kind : Int) (text : List UInt8) : Tok := if isP T s kind text then tk T s.i else tok0
def takeS (T : List Tok) (s : St) (kind : Int) (text : List UInt8) : St := if isP T s kind text then nextP s kind else s
def needS (T : List Tok) (s : St) (kind : Int) (text : List UInt8) : St := if isP T s kind text then nextP s kind else failP T s

/-- What the lexer's tokens are. -/
structure TOk (T : List Tok) : Prop where
  pos : 0 < T.length
  num : T.length ≤ 20001
  last : ∀ i, i < T.length → (tk T i).1 ≠ 5 → i + 1 < T.length
  line : ∀ i, i < T.length → 1 ≤ (tk T i).2.2 ∧ (tk T i).2.2 ≤ 20001
  size : ∀ i, i < T.length → (tk T i).2.1.length ≤ 20000

/-- Only block B was written. -/
structure Upd (B : Nat) (w w' : World) : Prop where
  heap : ∀ k, k < w.heap.size → k ≠ B → w'.heap[k]? = w.heap[k]?
  below : Below B w w'
theorem Upd.refl (B : Nat) (w : World) : Upd B w w := ⟨fun _ _ _ => rfl, Below.refl _ _⟩
theorem Upd.trans {B : Nat} {w w' w2 : World} (h : Upd B w w') (k : Upd B w' w2) : Upd B w w2 :=
  ⟨fun b h1 h2 => (k.heap b (Nat.lt_of_lt_of_le h1 h.below.size) h2).trans (h.heap b h1 h2), h.below.trans k.below⟩
theorem Upd.of {B : Nat} {w w' : World} (hb : Below w.heap.size w w') (hB : B ≤ w.heap.size) : Upd B w w' :=
  ⟨fun b h1 _ => hb.block b h1, hb.mono hB⟩
theorem Upd.set {B : Nat} {w w' : World} (h : Upd B w w') (o : Nat) (v : Value) : Upd B w (w'.setCell ⟨B, o, none⟩ v) :=
  ⟨fun k h1 hk => by rw [Below.heap_setCell _ ⟨B, o, none⟩ v k hk]; exact h.heap k h1 hk, h.below.setCell (Nat.le_refl _) v⟩

theorem cell_other {w : World} {b o o' : Nat} {v : Value} (h : o ≠ o') : (w.setCell ⟨b, o, none⟩ v).cell? ⟨b, o', none⟩ = w.cell? ⟨b, o', none⟩ :=
  World.cell?_setCell_other w ⟨b, o, none⟩ ⟨b, o', none⟩ v (fun e => h (by injection e))
theorem cell_same {w : World} {b o : Nat} {u v : Value} (h : w.cell? ⟨b, o, none⟩ = some u) : (w.setCell ⟨b, o, none⟩ v).cell? ⟨b, o, none⟩ = some v :=
  World.cell?_setCell_same w ⟨b, o, none⟩ v h
/-- A block of memory. -/
def Bk (b : Nat) (cs : Array Value) (w : World) : Prop := b < w.heap.size ∧ (∀ o, w.cell? ⟨b, o, none⟩ = cs[o]?) ∧ ∀ o, w.frozen? ⟨b, o, none⟩ = false
theorem Bk.new (w : World) (cs : Array Value) (T : TypeId) : Bk w.heap.size cs (w.alloc (.cells cs T)) :=
  ⟨by simp, fun o => cell_alloc_new w cs T (0, 0) o, fun o => by
    have h := heap_alloc_new w (.cells cs T)
    unfold World.frozen?
    rw [h]
    simp⟩
theorem Bk.same {b : Nat} {cs : Array Value} {w w' : World} (h : Bk b cs w) (hh : w'.heap[b]? = w.heap[b]?) (hs : w.heap.size ≤ w'.heap.size) : Bk b cs w' :=
  ⟨Nat.lt_of_lt_of_le h.1 hs, fun o => (World.cell?_of_block (a := ⟨b, o, none⟩) hh).trans (h.2.1 o), fun o => (World.frozen?_of_block (a := ⟨b, o, none⟩) hh).trans (h.2.2 o)⟩
theorem Bk.keep {b : Nat} {cs : Array Value} {w w' : World} (h : Bk b cs w) (hb : Below w.heap.size w w') : Bk b cs w' := h.same (hb.block b h.1) hb.size
theorem Bk.upd {B b : Nat} {cs : Array Value} {w w' : World} (h : Bk b cs w) (hu : Upd B w w') (hne : b ≠ B) : Bk b cs w' := h.same (hu.heap b h.1 hne) hu.below.size
theorem Bk.put {b : Nat} {cs : Array Value} {w : World} (h : Bk b cs w) {o : Nat} (ho : o < cs.size) (v : Value) : Bk b (cs.set o v ho) (w.setCell ⟨b, o, none⟩ v) := by
  refine ⟨by simpa [World.size_setCell] using h.1, fun p => ?_, fun p => ?_⟩
  · by_cases hp : o = p
    · subst hp
      rw [cell_same (u := cs[o]) (by rw [h.2.1]; exact Array.getElem?_eq_getElem ho)]
      simp
    · rw [cell_other hp, h.2.1, Array.getElem?_set_ne ho hp]
  · rw [World.frozen?_setCell]; exact h.2.2 p
theorem Bk.three {b : Nat} {x y z : Value} {w : World} (h : Bk b #[x, y, z] w) : w.cell? ⟨b, 0, none⟩ = some x ∧ w.cell? ⟨b, 1, none⟩ = some y ∧ w.cell? ⟨b, 2, none⟩ = some z := ⟨h.2.1 0, h.2.1 1, h.2.1 2⟩
theorem Bk.free3 {b : Nat} {cs : Array Value} {w : World} (h : Bk b cs w) : w.frozen? ⟨b, 0, none⟩ = false ∧ w.frozen? ⟨b, 1, none⟩ = false ∧ w.frozen? ⟨b, 2, none⟩ = false := ⟨h.2.2 0, h.2.2 1, h.2.2 2⟩

def errV (s : St) : Int := if s.f = 0 then 0 else 1
/-- A parser lies in block B: its tokens are those from the i-th on of the row g. -/
structure Prs (B g n cap : Nat) (T : List Tok) (s : St) (w : World) : Prop where
  blk : Bk B #[.slice (some ⟨g, s.i * 3, none⟩) (n - s.i) (cap - s.i), .int .i64 (errV s), .int .i64 s.f] w
  row : ∀ k, k < n → w.cell? ⟨g, k * 3, none⟩ = some (.int .i64 (tk T k).1) ∧ w.cell? ⟨g, k * 3 + 1, none⟩ = some (.string ⟨(tk T k).2.1.toArray⟩) ∧ w.cell? ⟨g, k * 3 + 2, none⟩ = some (.int .i64 (tk T k).2.2)
  gB : g ≠ B
  glt : g < w.heap.size
  i : s.i < n
  len : T.length = n
  cap1 : n ≤ cap
  cap2 : cap ≤ 9223372036854775807
theorem Prs.same {B g n cap : Nat} {T : List Tok} {s : St} {w w' : World} (h : Prs B g n cap T s w) (h1 : w'.heap[B]? = w.heap[B]?) (h2 : w'.heap[g]? = w.heap[g]?) (hs : w.heap.size ≤ w'.heap.size) : Prs B g n cap T s w' :=
  ⟨h.blk.same h1 hs, fun k hk => ⟨(World.cell?_of_block (a := ⟨g, _, none⟩) h2).trans (h.row k hk).1, (World.cell?_of_block (a := ⟨g, _, none⟩) h2).trans (h.row k hk).2.1, (World.cell?_of_block (a := ⟨g, _, none⟩) h2).trans (h.row k hk).2.2⟩, h.gB, Nat.lt_of_lt_of_le h.glt hs, h.i, h.len, h.cap1, h.cap2⟩
theorem Prs.keep {B g n cap : Nat} {T : List Tok} {s : St} {w w' : World} (h : Prs B g n cap T s w) (hb : Below w.heap.size w w') : Prs B g n cap T s w' := h.same (hb.block B h.blk.1) (hb.block g h.glt) hb.size

theorem isP_fault {T : List Tok} {s : St} {kind : Int} {text : List UInt8} (h : s.f ≠ 0) : isP T s kind text = false := by unfold isP; simp [h]

set_option maxRecDepth 100000 in
set_option maxHeartbeats 4000000 in
theorem is_c {B g n cap : Nat} {T : List Tok} {s : St} {w : World} (h : Prs B g n cap T s w) (kind : Int) (text : ByteArray) :
    Calls Try.prog 19 #[.pointer (some ⟨B, 0, none⟩), .int .i64 kind, .string text] w fun e w' => e = .returned (.bool (isP T s kind text.toList)) ∧ Below w.heap.size w w' := by
  obtain ⟨k0, k1, k2⟩ := h.blk.three
  obtain ⟨c0, c1, c2⟩ := h.row s.i h.i
  have hi := h.i
  have hc1 := h.cap1
  have hc2 := h.cap2
  obtain ⟨i, f⟩ := s
  simp only at k0 k1 k2 c0 c1 c2 hi
  obtain ⟨x, hx⟩ : ∃ x, (tk T i).1 = x := ⟨_, rfl⟩
  obtain ⟨S, hS⟩ : ∃ S : ByteArray, (⟨(tk T i).2.1.toArray⟩ : ByteArray) = S := ⟨_, rfl⟩
  obtain ⟨l, hl⟩ : ∃ l, (tk T i).2.2 = l := ⟨_, rfl⟩
  have HI : Hid (isP T ⟨i, f⟩ kind text.toList = (f == 0 && (x == kind) && (text.toList.isEmpty || (S.toList == text.toList)))) := Lib.hid (by
    have e : S.toList = (tk T i).2.1 := by rw [← hS, Lib.toList_data]
    rw [e, ← hx]
    rfl)
  rw [HI.out]
  rw [hx] at c0
  rw [hS] at c1
  rw [hl] at c2
  obtain ⟨m, hm⟩ : ∃ m : Nat, n - i = m + 1 := ⟨n - i - 1, by omega⟩
  obtain ⟨cp, hcp⟩ : ∃ c : Nat, cap - i = c + 1 := ⟨cap - i - 1, by omega⟩
  rw [hm, hcp] at k0
  have e0 := cell_alloc_old (o := .cells #[.int .i64 x, .string S, .int .i64 l] 47) k0
  have e1 := cell_alloc_old (o := .cells #[.int .i64 x, .string S, .int .i64 l] 47) k1
  have hb : Below w.heap.size w (w.alloc (.cells #[.int .i64 x, .string S, .int .i64 l] 47)) := (Below.refl _ _).alloc (Nat.le_refl _) _
  have q1 : ¬ ((m : Int) + 1 ≤ 0) := by omega
  clear hm hcp hx hS hl HI h k1 k2
  by_cases hf : f = 0
  · subst hf
    have e1' : (w.alloc (.cells #[.int .i64 x, .string S, .int .i64 l] 47)).cell? ⟨B, 1, none⟩ = some (.int .i64 0) := e1
    clear e1
    by_cases hk : x = kind
    · subst hk
      by_cases ht : text.toList = []
      · have ht2 : text.toList.isEmpty = true := by rw [ht]; rfl
        go_enter Try.func19, Try.ntmps19
        go_wp2_with fail
        go_ret
        exact ⟨by simp, hb⟩
      · have ht2 : text.toList.isEmpty = false := by rw [Bool.eq_false_iff]; intro h; exact ht (List.isEmpty_iff.1 h)
        cases hq : (S.toList == text.toList)
        all_goals
          go_enter Try.func19, Try.ntmps19
          go_wp2_with fail
          go_ret
          exact ⟨by simp, hb⟩
    · have hk2 : (x == kind) = false := by rw [beq_eq_false_iff_ne]; exact hk
      go_enter Try.func19, Try.ntmps19
      go_wp2_with fail
      go_ret
      exact ⟨by simp, hb⟩
  · have e1' : (w.alloc (.cells #[.int .i64 x, .string S, .int .i64 l] 47)).cell? ⟨B, 1, none⟩ = some (.int .i64 1) := by rw [e1]; unfold errV; rw [if_neg hf]
    have hf2 : (f == 0) = false := by rw [beq_eq_false_iff_ne]; exact hf
    clear e1
    go_enter Try.func19, Try.ntmps19
    go_wp2_with fail
    go_ret
    exact ⟨by simp, hb⟩

end Go.Proofs.Ythdcgplocdehjaa

/- The parser: take, fail, need. -/
namespace Go.Proofs.Ythdcgplocdehjaa
open Go.RowKit Go.Proofs.Kit

def tokV (t : Tok) : Value := .agg #[.int .i64 t.1, .string ⟨t.2.1.toArray⟩, .int .i64 t.2.2]
theorem takeT_yes {T : List Tok} {s : St} {kind : Int} {text : List UInt8} (h : isP T s kind text = true) : takeT T s kind text = tk T s.i := by unfold takeT; rw [if_pos h]
theorem takeT_no {T : List Tok} {s : St} {kind : Int} {text : List UInt8} (h : isP T s kind text = false) : takeT T s kind text = tok0 := by unfold takeT; rw [if_neg (by rw [h]; simp)]
theorem takeS_yes {T : List Tok} {s : St} {kind : Int} {text : List UInt8} (h : isP T s kind text = true) : takeS T s kind text = nextP s kind := by unfold takeS; rw [if_pos h]
theorem takeS_no {T : List Tok} {s : St} {kind : Int} {text : List UInt8} (h : isP T s kind text = false) : takeS T s kind text = s := by unfold takeS; rw [if_neg (by rw [h]; simp)]
theorem isP_kind {T : List Tok} {s : St} {kind : Int} {text : List UInt8} (h : isP T s kind text = true) : s.f = 0 ∧ (tk T s.i).1 = kind := by
  unfold isP at h
  simp only [Bool.and_eq_true, beq_iff_eq] at h
  exact h.1
/-- The next token is taken. -/
theorem Prs.next {B g n cap : Nat} {T : List Tok} {i f : Nat} {w : World} (h : Prs B g n cap T ⟨i, f⟩ w) (hi : i + 1 < n) {v : Value} (hv : v = .slice (some ⟨g, (i + 1) * 3, none⟩) (n - (i + 1)) (cap - (i + 1))) :
    Prs B g n cap T ⟨i + 1, f⟩ (w.setCell ⟨B, 0, none⟩ v) := by
  subst hv
  have hh : (w.setCell ⟨B, 0, none⟩ (.slice (some ⟨g, (i + 1) * 3, none⟩) (n - (i + 1)) (cap - (i + 1)))).heap[g]? = w.heap[g]? := Below.heap_setCell _ ⟨B, 0, none⟩ _ g h.gB
  refine ⟨h.blk.put (o := 0) (by simp) _, fun k hk => ⟨(World.cell?_of_block (a := ⟨g, _, none⟩) hh).trans (h.row k hk).1, (World.cell?_of_block (a := ⟨g, _, none⟩) hh).trans (h.row k hk).2.1, (World.cell?_of_block (a := ⟨g, _, none⟩) hh).trans (h.row k hk).2.2⟩, h.gB, by simpa using h.glt, hi, h.len, h.cap1, h.cap2⟩

theorem Prs.off {B g n cap : Nat} {T : List Tok} {s : St} {w : World} (h : Prs B g n cap T s w) {b o : Nat} {v : Value} (h1 : b ≠ B) (h2 : b ≠ g) : Prs B g n cap T s (w.setCell ⟨b, o, none⟩ v) :=
  h.same (Below.heap_setCell _ ⟨b, o, none⟩ _ B h1.symm) (Below.heap_setCell _ ⟨b, o, none⟩ _ g h2.symm) (by simp)
theorem Prs.head {B g n cap i f m c : Nat} {T : List Tok} {w : World} (h : Prs B g n cap T ⟨i, f⟩ w) (hm : n - i = m) (hc : cap - i = c) : w.cell? ⟨B, 0, none⟩ = some (.slice (some ⟨g, i * 3, none⟩) m c) := by
  subst hm
  subst hc
  exact h.blk.three.1
theorem Upd.off {B : Nat} {w w' : World} (h : Upd B w w') {b o : Nat} {v : Value} (h1 : w.heap.size ≤ b) (h2 : B ≤ b) : Upd B w (w'.setCell ⟨b, o, none⟩ v) :=
  ⟨fun k hk hne => by rw [Below.heap_setCell _ ⟨b, o, none⟩ v k (by show k ≠ b; omega)]; exact h.heap k hk hne, h.below.setCell h2 v⟩
theorem bel3 {w0 w w' : World} (h : Below w0.heap.size w0 w) (h2 : Below w.heap.size w w') : Below w0.heap.size w0 w' := h.trans (h2.mono h.size)

set_option maxRecDepth 100000 in
set_option maxHeartbeats 4000000 in
theorem take_c {B g n cap : Nat} {T : List Tok} {s : St} {w : World} (hT : TOk T) (h : Prs B g n cap T s w) (kind : Int) (text : ByteArray) :
    Calls Try.prog 35 #[.pointer (some ⟨B, 0, none⟩), .int .i64 kind, .string text] w fun e w' => e = .returned (.tuple #[tokV (takeT T s kind text.toList), .bool (isP T s kind text.toList)]) ∧ Prs B g n cap T (takeS T s kind text.toList) w' ∧ Upd B w w' := by
  have hBw : B < w.heap.size := h.blk.1
  have hBd : Below w.heap.size w (w.alloc (.cells #[.int .i64 0, .string ⟨#[]⟩, .int .i64 0] 47)) := (Below.refl _ _).alloc (Nat.le_refl _) _
  have R0 := Lib.hid (Bk.new w #[.int .i64 0, .string ⟨#[]⟩, .int .i64 0] 47)
  have h0 := Lib.hid (h.keep hBd)
  obtain ⟨W, hW⟩ : ∃ W, w.alloc (.cells #[.int .i64 0, .string ⟨#[]⟩, .int .i64 0] 47) = W := ⟨_, rfl⟩
  rw [hW] at hBd R0 h0
  have HW := Lib.hid hW
  clear hW
  obtain ⟨b, hb⟩ : ∃ b, isP T s kind text.toList = b := ⟨_, rfl⟩
  have IS := Lib.hid (is_c h0.out kind text)
  rw [hb] at IS ⊢
  cases b
  · rw [takeT_no hb, takeS_no hb]
    have HB := Lib.hid hb
    clear hb
    go_enter Try.func35, Try.ntmps35
    go_wp2_with fail
    rw [HW.out]
    go_wp2_with (go_at_call 19; ((with_reducible refine (IS.out).mono ?_); rintro e w1 ⟨rfl, hb1⟩; obtain ⟨r0, r1, r2⟩ := (R0.out.keep hb1).three; obtain ⟨f0, f1, f2⟩ := (R0.out.keep hb1).free3))
    refine bodyPost_ret (v := .tuple #[tokV tok0, .bool false]) (by simp [results, Try.results35, go_sem, tokV, tok0, r0, r1, r2]) rfl ?_
    have hP1 := h0.out.keep hb1
    have hg := h.glt
    exact ⟨rfl, ((hP1.off (by omega) (by omega)).off (by omega) (by omega)).off (by omega) (by omega), (((Upd.of (bel3 hBd hb1) (by omega)).off (Nat.le_refl _) (by omega)).off (Nat.le_refl _) (by omega)).off (Nat.le_refl _) (by omega)⟩
  · obtain ⟨hf, hk⟩ := isP_kind hb
    rw [takeT_yes hb, takeS_yes hb]
    have HB := Lib.hid hb
    obtain ⟨i, f⟩ := s
    simp only at hf hk ⊢
    obtain ⟨x, hx⟩ : ∃ x, tk T i = x := ⟨_, rfl⟩
    obtain ⟨S, hS⟩ : ∃ S : ByteArray, (⟨x.2.1.toArray⟩ : ByteArray) = S := ⟨_, rfl⟩
    obtain ⟨l, hl⟩ : ∃ l, x.2.2 = l := ⟨_, rfl⟩
    have hi : i < n := h.i
    have hc1 := h.cap1
    have hc2 := h.cap2
    have hg := h.glt
    have hTV : Hid (tokV x = .agg #[.int .i64 kind, .string S, .int .i64 l]) := Lib.hid (by unfold tokV; rw [hS, hl, ← hk, hx])
    rw [hx, hTV.out]
    have HIl : Hid (kind ≠ 5 → i + 1 < n) := Lib.hid (fun g => by rw [← h.len]; exact hT.last i (by rw [h.len]; exact hi) (by rw [hk]; exact g))
    have HR : Hid (∀ w', Prs B g n cap T ⟨i, f⟩ w' → w'.cell? ⟨g, i * 3, none⟩ = some (.int .i64 kind) ∧ w'.cell? ⟨g, i * 3 + 1, none⟩ = some (.string S) ∧ w'.cell? ⟨g, i * 3 + 2, none⟩ = some (.int .i64 l)) := Lib.hid (fun w' h' => by
      have := h'.row i hi
      rw [hk, hx, hS, hl] at this
      exact this)
    clear hb hf hx hS hl
    by_cases h5 : kind = 5
    · subst h5
      have hN : nextP ⟨i, f⟩ 5 = ⟨i, f⟩ := by unfold nextP; rw [if_pos rfl]
      rw [hN]
      obtain ⟨m, hm⟩ : ∃ m : Nat, n - i = m + 1 := ⟨n - i - 1, by omega⟩
      obtain ⟨cp, hcp⟩ : ∃ c : Nat, cap - i = c + 1 := ⟨cap - i - 1, by omega⟩
      have HM := Lib.hid (And.intro hm hcp)
      clear hm hcp hN hk
      go_enter Try.func35, Try.ntmps35
      go_wp2_with fail
      rw [HW.out]
      go_wp2_with (go_at_call 19; ((with_reducible refine (IS.out).mono ?_); rintro e w1 ⟨rfl, hb1⟩; have hA1 := (Below.refl w1.heap.size w1).alloc (Nat.le_refl _) (.cells #[.int .i64 5, .string S, .int .i64 l] 47); obtain ⟨r0, r1, r2⟩ := ((R0.out.keep hb1).keep hA1).three; obtain ⟨f0, f1, f2⟩ := ((R0.out.keep hb1).keep hA1).free3; have hP1 := Lib.hid (h0.out.keep hb1); have hs1 := hb1.size; have hs0 := R0.out.1; have hne : ¬ w1.heap.size = w.heap.size := (by omega); have hne2 : ¬ w.heap.size = w1.heap.size := (by omega); have k0 := hP1.out.head HM.out.1 HM.out.2; obtain ⟨c0, c1, c2⟩ := HR.out _ hP1.out))
      refine bodyPost_ret (v := .tuple #[.agg #[.int .i64 5, .string S, .int .i64 l], .bool true]) (by simp [results, Try.results35, go_sem, r0, r1, r2]) rfl ?_
      exact ⟨rfl, (((hP1.out.keep hA1).off (by omega) (by omega)).off (by omega) (by omega)).off (by omega) (by omega), (((Upd.of ((bel3 hBd hb1).trans (hA1.mono (by omega))) (by omega)).off (Nat.le_refl _) (by omega)).off (Nat.le_refl _) (by omega)).off (Nat.le_refl _) (by omega)⟩
    · have h5b : (kind != 5) = true := by rw [bne_iff_ne]; exact h5
      have hi2 := HIl.out h5
      have hN : nextP ⟨i, f⟩ kind = ⟨i + 1, f⟩ := by unfold nextP; rw [if_neg h5]
      rw [hN]
      obtain ⟨m, hm⟩ : ∃ m : Nat, n - i = m + 2 := ⟨n - i - 2, by omega⟩
      obtain ⟨cp, hcp⟩ : ∃ c : Nat, cap - i = c + 2 := ⟨cap - i - 2, by omega⟩
      have HM := Lib.hid (And.intro hm hcp)
      have HV : Hid (Value.slice (some ⟨g, i * 3 + 3, none⟩) (m + 1) (cp + 1) = .slice (some ⟨g, (i + 1) * 3, none⟩) (n - (i + 1)) (cap - (i + 1))) := Lib.hid (by
        rw [show n - (i + 1) = m + 1 by omega, show cap - (i + 1) = cp + 1 by omega, show (i + 1) * 3 = i * 3 + 3 by omega])
      clear hm hcp hN hk
      have hBR : ¬ B = w.heap.size := by omega
      have hBR2 : ¬ w.heap.size = B := by omega
      go_enter Try.func35, Try.ntmps35
      go_wp2_with fail
      rw [HW.out]
      go_wp2_with (go_at_call 19; ((with_reducible refine (IS.out).mono ?_); rintro e w1 ⟨rfl, hb1⟩; have hA1 := (Below.refl w1.heap.size w1).alloc (Nat.le_refl _) (.cells #[.int .i64 kind, .string S, .int .i64 l] 47); obtain ⟨r0, r1, r2⟩ := ((R0.out.keep hb1).keep hA1).three; obtain ⟨f0, f1, f2⟩ := ((R0.out.keep hb1).keep hA1).free3; have hP1 := Lib.hid (h0.out.keep hb1); have hP2 := Lib.hid (hP1.out.keep hA1); have hs1 := hb1.size; have hs0 := R0.out.1; have hne : ¬ w1.heap.size = w.heap.size := (by omega); have hne2 : ¬ w.heap.size = w1.heap.size := (by omega); have hne3 : ¬ B = w1.heap.size := (by omega); have hne4 : ¬ w1.heap.size = B := (by omega); have k0 := hP1.out.head HM.out.1 HM.out.2; have k1 := hP2.out.head HM.out.1 HM.out.2; have k2 := hP2.out.blk.free3.1; obtain ⟨c0, c1, c2⟩ := HR.out _ hP1.out))
      refine bodyPost_ret (v := .tuple #[.agg #[.int .i64 kind, .string S, .int .i64 l], .bool true]) (by simp [results, Try.results35, go_sem, r0, r1, r2]) rfl ?_
      exact ⟨rfl, (((hP2.out.next hi2 HV.out).off (by omega) (by omega)).off (by omega) (by omega)).off (by omega) (by omega), ((((Upd.of ((bel3 hBd hb1).trans (hA1.mono (by omega))) (by omega)).set 0 _).off (Nat.le_refl _) (by omega)).off (Nat.le_refl _) (by omega)).off (Nat.le_refl _) (by omega)⟩

end Go.Proofs.Ythdcgplocdehjaa

/- The parser: fail, need. -/
namespace Go.Proofs.Ythdcgplocdehjaa
open Go.RowKit Go.Proofs.Kit

theorem needS_yes {T : List Tok} {s : St} {kind : Int} {text : List UInt8} (h : isP T s kind text = true) : needS T s kind text = nextP s kind := by unfold needS; rw [if_pos h]
theorem needS_no {T : List Tok} {s : St} {kind : Int} {text : List UInt8} (h : isP T s kind text = false) : needS T s kind text = failP T s := by unfold needS; rw [if_neg (by rw [h]; simp)]
/-- The fault is recorded. -/
theorem Prs.failed {B g n cap : Nat} {T : List Tok} {i l : Nat} {w : World} (h : Prs B g n cap T ⟨i, 0⟩ w) (hl : 1 ≤ l) : Prs B g n cap T ⟨i, l⟩ ((w.setCell ⟨B, 1, none⟩ (.int .i64 1)).setCell ⟨B, 2, none⟩ (.int .i64 l)) := by
  have hh : ((w.setCell ⟨B, 1, none⟩ (.int .i64 1)).setCell ⟨B, 2, none⟩ (.int .i64 l)).heap[g]? = w.heap[g]? := by
    rw [Below.heap_setCell _ ⟨B, 2, none⟩ _ g h.gB, Below.heap_setCell _ ⟨B, 1, none⟩ _ g h.gB]
  have hE : errV ⟨i, l⟩ = 1 := by unfold errV; rw [if_neg (by show ¬ l = 0; omega)]
  have hb := (h.blk.put (o := 1) (by simp) (.int .i64 1)).put (o := 2) (by simp) (.int .i64 l)
  refine ⟨by rw [hE]; exact hb, fun k hk => ⟨(World.cell?_of_block (a := ⟨g, _, none⟩) hh).trans (h.row k hk).1, (World.cell?_of_block (a := ⟨g, _, none⟩) hh).trans (h.row k hk).2.1, (World.cell?_of_block (a := ⟨g, _, none⟩) hh).trans (h.row k hk).2.2⟩, h.gB, by simpa using h.glt, h.i, h.len, h.cap1, h.cap2⟩

set_option maxRecDepth 100000 in
set_option maxHeartbeats 4000000 in
theorem fail_c {B g n cap : Nat} {T : List Tok} {s : St} {w : World} (hT : TOk T) (h : Prs B g n cap T s w) :
    Calls Try.prog 36 #[.pointer (some ⟨B, 0, none⟩)] w fun e w' => e = .returned (.tuple #[]) ∧ Prs B g n cap T (failP T s) w' ∧ Upd B w w' := by
  obtain ⟨k0, k1, k2⟩ := h.blk.three
  obtain ⟨f0, f1, f2⟩ := h.blk.free3
  obtain ⟨i, f⟩ := s
  have hi : i < n := h.i
  have hc1 := h.cap1
  have hc2 := h.cap2
  by_cases hf : f = 0
  · subst hf
    obtain ⟨_, _, c2⟩ := h.row i hi
    have hl := (hT.line i (by rw [h.len]; exact hi)).1
    have hF : failP T ⟨i, 0⟩ = ⟨i, (tk T i).2.2⟩ := by unfold failP; rw [if_pos rfl]
    rw [hF]
    have k1' : w.cell? ⟨B, 1, none⟩ = some (.int .i64 0) := k1
    have HF := Lib.hid (h.failed hl)
    obtain ⟨l, hll⟩ : ∃ l, (tk T i).2.2 = l := ⟨_, rfl⟩
    rw [hll] at c2 HF ⊢
    obtain ⟨m, hm⟩ : ∃ m : Nat, n - i = m + 1 := ⟨n - i - 1, by omega⟩
    obtain ⟨cp, hcp⟩ : ∃ c : Nat, cap - i = c + 1 := ⟨cap - i - 1, by omega⟩
    have k0' := h.head hm hcp
    clear k0 k1 hF hl hll hm hcp
    go_enter Try.func36, Try.ntmps36
    go_wp2_with fail
    go_end0
    exact ⟨rfl, HF.out, ((Upd.refl B w).set 1 _).set 2 _⟩
  · have hF : failP T ⟨i, f⟩ = ⟨i, f⟩ := by unfold failP; rw [if_neg hf]
    rw [hF]
    have k1' : w.cell? ⟨B, 1, none⟩ = some (.int .i64 1) := by rw [k1]; unfold errV; rw [if_neg hf]
    clear k1 hF
    go_enter Try.func36, Try.ntmps36
    go_wp2_with fail
    go_end0
    exact ⟨rfl, h, Upd.refl B w⟩

set_option maxRecDepth 100000 in
set_option maxHeartbeats 4000000 in
theorem need_c {B g n cap : Nat} {T : List Tok} {s : St} {w : World} (hT : TOk T) (h : Prs B g n cap T s w) (kind : Int) (text : ByteArray) :
    Calls Try.prog 18 #[.pointer (some ⟨B, 0, none⟩), .int .i64 kind, .string text] w fun e w' => e = .returned (tokV (takeT T s kind text.toList)) ∧ Prs B g n cap T (needS T s kind text.toList) w' ∧ Upd B w w' := by
  have hBw : B < w.heap.size := h.blk.1
  have hBd : Below w.heap.size w (w.alloc (.cells #[.int .i64 0, .string ⟨#[]⟩, .int .i64 0] 47)) := (Below.refl _ _).alloc (Nat.le_refl _) _
  have R0 := Lib.hid (Bk.new w #[.int .i64 0, .string ⟨#[]⟩, .int .i64 0] 47)
  have h0 := h.keep hBd
  have hg := h.glt
  obtain ⟨W, hW⟩ : ∃ W, w.alloc (.cells #[.int .i64 0, .string ⟨#[]⟩, .int .i64 0] 47) = W := ⟨_, rfl⟩
  rw [hW] at hBd R0 h0
  have HW := Lib.hid hW
  have TA := Lib.hid (take_c hT h0 kind text)
  have FA := Lib.hid (fun w' (g : Prs B g n cap T s w') => fail_c hT g)
  have hs0 := R0.out.1
  obtain ⟨x, hx⟩ : ∃ x, takeT T s kind text.toList = x := ⟨_, rfl⟩
  obtain ⟨S, hS⟩ : ∃ S : ByteArray, (⟨x.2.1.toArray⟩ : ByteArray) = S := ⟨_, rfl⟩
  obtain ⟨k, hk⟩ : ∃ k, x.1 = k := ⟨_, rfl⟩
  obtain ⟨l, hl⟩ : ∃ l, x.2.2 = l := ⟨_, rfl⟩
  have hV : tokV x = .agg #[.int .i64 k, .string S, .int .i64 l] := by unfold tokV; rw [hk, hS, hl]
  rw [hx, hV] at TA ⊢
  clear hW hx hS hk hl hV h0
  obtain ⟨b, hb⟩ : ∃ b, isP T s kind text.toList = b := ⟨_, rfl⟩
  have HB := Lib.hid hb
  cases b
  · rw [takeS_no hb, hb] at TA
    rw [needS_no hb]
    clear hb
    go_enter Try.func18, Try.ntmps18
    go_wp2_with fail
    rw [HW.out]
    go_wp2_with (first
      | (go_at_call 35; ((with_reducible refine (TA.out).mono ?_); rintro e w1 ⟨rfl, hP1, hu1⟩; have hA1 := (Below.refl w1.heap.size w1).alloc (Nat.le_refl _) (.cells #[.int .i64 k, .string S, .int .i64 l] 47); have R1 := Lib.hid (R0.out.upd hu1 (by omega)); have R2 := Lib.hid (R1.out.keep hA1); have hP2 := Lib.hid (hP1.keep hA1); have N2 := Lib.hid (Bk.new w1 #[.int .i64 k, .string S, .int .i64 l] 47); have hs1 := hu1.below.size; have hne : ¬ w1.heap.size = w.heap.size := (by have := R1.out.1; omega); have hne2 : ¬ w.heap.size = w1.heap.size := (by omega); have hu2 := hu1.trans (Upd.of hA1 (by omega))))
      | (go_at_call 36; ((with_reducible refine (FA.out _ hP2.out).mono ?_); rintro e w3 ⟨rfl, hP3, hu3⟩; have R3 := Lib.hid (R2.out.upd hu3 (by omega)); have N3 := Lib.hid (N2.out.upd hu3 (by omega)); obtain ⟨r0, r1, r2⟩ := R3.out.three; obtain ⟨f0, f1, f2⟩ := R3.out.free3; obtain ⟨n0, n1, n2⟩ := N3.out.three)))
    refine bodyPost_ret (v := .agg #[.int .i64 k, .string S, .int .i64 l]) (by simp [results, Try.results18, go_sem, r0, r1, r2]) rfl ?_
    have hU := ((Upd.of hBd (by omega)).trans hu2).trans hu3
    exact ⟨rfl, ((hP3.off (by omega) (by omega)).off (by omega) (by omega)).off (by omega) (by omega), ((hU.off (Nat.le_refl _) (by omega)).off (Nat.le_refl _) (by omega)).off (Nat.le_refl _) (by omega)⟩
  · rw [takeS_yes hb, hb] at TA
    rw [needS_yes hb]
    clear hb
    go_enter Try.func18, Try.ntmps18
    go_wp2_with fail
    rw [HW.out]
    go_wp2_with (first
      | (go_at_call 35; ((with_reducible refine (TA.out).mono ?_); rintro e w1 ⟨rfl, hP1, hu1⟩; have hA1 := (Below.refl w1.heap.size w1).alloc (Nat.le_refl _) (.cells #[.int .i64 k, .string S, .int .i64 l] 47); have R1 := Lib.hid (R0.out.upd hu1 (by omega)); have R2 := Lib.hid (R1.out.keep hA1); have hP2 := Lib.hid (hP1.keep hA1); have hs1 := hu1.below.size; have hne : ¬ w1.heap.size = w.heap.size := (by have := R1.out.1; omega); have hne2 : ¬ w.heap.size = w1.heap.size := (by omega); have hu2 := hu1.trans (Upd.of hA1 (by omega)); obtain ⟨r0, r1, r2⟩ := R2.out.three; obtain ⟨f0, f1, f2⟩ := R2.out.free3)))
    refine bodyPost_ret (v := .agg #[.int .i64 k, .string S, .int .i64 l]) (by simp [results, Try.results18, go_sem, r0, r1, r2]) rfl ?_
    have hU := (Upd.of hBd (by omega)).trans hu2
    exact ⟨rfl, ((hP2.out.off (by omega) (by omega)).off (by omega) (by omega)).off (by omega) (by omega), ((hU.off (Nat.le_refl _) (by omega)).off (Nat.le_refl _) (by omega)).off (Nat.le_refl _) (by omega)⟩

end Go.Proofs.Ythdcgplocdehjaa

/- The parser: value. -/
namespace Go.Proofs.Ythdcgplocdehjaa
open Go.RowKit Go.Proofs.Kit

/-- A value, as the parser reads it. -/
def valT (T : List Tok) (s : St) : List UInt8 :=
  if isP T s 1 [] then (tk T s.i).2.1 else if isP T s 3 [] then (tk T s.i).2.1
  else if isP T (needS T s 2 []) 4 [47] then (takeT T s 2 []).2.1 ++ 47 :: (takeT T (takeS T (needS T s 2 []) 4 [47]) 2 []).2.1
  else (takeT T s 2 []).2.1
def valS (T : List Tok) (s : St) : St :=
  if isP T s 1 [] then takeS T s 1 [] else if isP T s 3 [] then takeS T s 3 []
  else if isP T (needS T s 2 []) 4 [47] then needS T (takeS T (needS T s 2 []) 4 [47]) 2 []
  else needS T s 2 []
theorem takeT_len {T : List Tok} {s : St} {kind : Int} {text : List UInt8} (hT : TOk T) (hi : s.i < T.length) : (takeT T s kind text).2.1.length ≤ 20000 := by
  unfold takeT
  split
  · exact hT.size _ hi
  · show 0 ≤ 20000; omega
theorem tokV_eq (t : Tok) {S : ByteArray} {k : Int} {l : Nat} (h1 : t.1 = k) (h2 : (⟨t.2.1.toArray⟩ : ByteArray) = S) (h3 : t.2.2 = l) : tokV t = .agg #[.int .i64 k, .string S, .int .i64 l] := by unfold tokV; rw [h1, h2, h3]
/-- take, its token in parts. -/
theorem take_v {B g n cap : Nat} {T : List Tok} {s : St} {w : World} (hT : TOk T) (h : Prs B g n cap T s w) (kind : Int) (text : ByteArray) {b : Bool} (hb : isP T s kind text.data.toList = b) {S : ByteArray} (hS : (⟨(takeT T s kind text.data.toList).2.1.toArray⟩ : ByteArray) = S) :
    ∃ k : Int, ∃ l : Nat, Calls Try.prog 35 #[.pointer (some ⟨B, 0, none⟩), .int .i64 kind, .string text] w fun e w' => e = .returned (.tuple #[.agg #[.int .i64 k, .string S, .int .i64 l], .bool b]) ∧ Prs B g n cap T (takeS T s kind text.data.toList) w' ∧ Upd B w w' := by
  have := take_c hT h kind text
  rw [Lib.toList_data, hb, tokV_eq _ rfl hS rfl] at this
  exact ⟨_, _, this⟩
theorem need_v {B g n cap : Nat} {T : List Tok} {s : St} {w : World} (hT : TOk T) (h : Prs B g n cap T s w) (kind : Int) (text : ByteArray) {S : ByteArray} (hS : (⟨(takeT T s kind text.data.toList).2.1.toArray⟩ : ByteArray) = S) :
    ∃ k : Int, ∃ l : Nat, Calls Try.prog 18 #[.pointer (some ⟨B, 0, none⟩), .int .i64 kind, .string text] w fun e w' => e = .returned (.agg #[.int .i64 k, .string S, .int .i64 l]) ∧ Prs B g n cap T (needS T s kind text.data.toList) w' ∧ Upd B w w' := by
  have := need_c hT h kind text
  rw [Lib.toList_data, tokV_eq _ rfl hS rfl] at this
  exact ⟨_, _, this⟩
theorem Bk.two {b : Nat} {x y : Value} {w : World} (h : Bk b #[x, y] w) : w.cell? ⟨b, 0, none⟩ = some x ∧ w.cell? ⟨b, 1, none⟩ = some y := ⟨h.2.1 0, h.2.1 1⟩
theorem cat3 (a b : List UInt8) : (⟨a.toArray⟩ : ByteArray) ++ ((⟨#[47]⟩ : ByteArray) ++ ⟨b.toArray⟩) = ⟨(a ++ 47 :: b).toArray⟩ := by
  rw [← Lib.mk_data (_ ++ _), data_app', data_app']
  simp
theorem fld1 (k : Int) (S : ByteArray) (l : Int) (w : World) : (Instr.field 47 (.agg #[.int .i64 k, .string S, .int .i64 l]) 1).run Try.prog w = .ok (.string S) w := by kernel_rfl
theorem size_mk (l : List UInt8) : (⟨l.toArray⟩ : ByteArray).size = l.length := by simp [ByteArray.size]

set_option maxRecDepth 100000 in
set_option maxHeartbeats 4000000 in
theorem value_c {B g n cap : Nat} {T : List Tok} {s : St} {w : World} (hT : TOk T) (h : Prs B g n cap T s w) :
    Calls Try.prog 57 #[.pointer (some ⟨B, 0, none⟩)] w fun e w' => e = .returned (.string ⟨(valT T s).toArray⟩) ∧ Prs B g n cap T (valS T s) w' ∧ Upd B w w' := by
  have hBw : B < w.heap.size := h.blk.1
  have hBd : Below w.heap.size w (w.alloc (.cells #[.int .i64 1, .int .i64 3] 3)) := (Below.refl _ _).alloc (Nat.le_refl _) _
  have R0 := Lib.hid (Bk.new w #[.int .i64 1, .int .i64 3] 3)
  have h0 := Lib.hid (h.keep hBd)
  have hg := h.glt
  have hil : s.i < T.length := by rw [h.len]; exact h.i
  obtain ⟨W, hW⟩ : ∃ W, w.alloc (.cells #[.int .i64 1, .int .i64 3] 3) = W := ⟨_, rfl⟩
  rw [hW] at hBd R0 h0
  have HW := Lib.hid hW
  have hs0 := R0.out.1
  clear hW
  obtain ⟨b1, hb1⟩ : ∃ b, isP T s 1 [] = b := ⟨_, rfl⟩
  obtain ⟨S1, hS1⟩ : ∃ S : ByteArray, (⟨(takeT T s 1 []).2.1.toArray⟩ : ByteArray) = S := ⟨_, rfl⟩
  obtain ⟨ka, la, TA⟩ := take_v hT h0.out 1 ⟨#[]⟩ hb1 hS1
  have TA := Lib.hid TA
  cases b1
  · obtain ⟨b3, hb3⟩ : ∃ b, isP T s 3 [] = b := ⟨_, rfl⟩
    rw [show (⟨#[]⟩ : ByteArray).data.toList = [] from rfl, takeS_no hb1] at TA
    obtain ⟨S3, hS3⟩ : ∃ S : ByteArray, (⟨(takeT T s 3 []).2.1.toArray⟩ : ByteArray) = S := ⟨_, rfl⟩
    have TB := Lib.hid (fun w' (g' : Prs B g n cap T s w') => take_v hT g' 3 ⟨#[]⟩ hb3 hS3)
    obtain ⟨r0, r1⟩ := R0.out.two
    cases b3
    · rw [show (⟨#[]⟩ : ByteArray).data.toList = [] from rfl, takeS_no hb3] at TB
      obtain ⟨s2, hs2⟩ : ∃ x, needS T s 2 [] = x := ⟨_, rfl⟩
      obtain ⟨S2, hS2⟩ : ∃ S : ByteArray, (⟨(takeT T s 2 []).2.1.toArray⟩ : ByteArray) = S := ⟨_, rfl⟩
      have hz2 : S2.size ≤ 20000 := by rw [← hS2, size_mk]; exact takeT_len hT hil
      have NC := Lib.hid (fun w' (g' : Prs B g n cap T s w') => need_v hT g' 2 ⟨#[]⟩ hS2)
      rw [show (⟨#[]⟩ : ByteArray).data.toList = [] from rfl, hs2] at NC
      obtain ⟨b4, hb4⟩ : ∃ b, isP T s2 4 [47] = b := ⟨_, rfl⟩
      obtain ⟨S4, hS4⟩ : ∃ S : ByteArray, (⟨(takeT T s2 4 [47]).2.1.toArray⟩ : ByteArray) = S := ⟨_, rfl⟩
      obtain ⟨s4, hs4⟩ : ∃ x, takeS T s2 4 [47] = x := ⟨_, rfl⟩
      have TD := Lib.hid (fun w' (g' : Prs B g n cap T s2 w') => take_v hT g' 4 ⟨#[47]⟩ hb4 hS4)
      rw [show (⟨#[47]⟩ : ByteArray).data.toList = [47] from rfl, hs4] at TD
      have HVT : Hid (valT T s = if b4 then (takeT T s 2 []).2.1 ++ 47 :: (takeT T s4 2 []).2.1 else (takeT T s 2 []).2.1) := Lib.hid (by
        unfold valT
        rw [if_neg (by rw [hb1]; simp), if_neg (by rw [hb3]; simp), hs2, hs4, hb4])
      have HVS : Hid (valS T s = if b4 then needS T s4 2 [] else s2) := Lib.hid (by
        unfold valS
        rw [if_neg (by rw [hb1]; simp), if_neg (by rw [hb3]; simp), hs2, hs4, hb4])
      have HS2 := Lib.hid hS2
      have HS4 : Hid (b4 = false → s4 = s2) := Lib.hid (fun h => by rw [← hs4]; exact takeS_no (by rw [hb4]; exact h))
      clear hb1 hb3 hS1 hS3 hs2 hS2 hS4 hs4 hb4
      have hfd := fld1
      cases b4
      · obtain rfl := HS4.out rfl
        rw [HVT.out, HVS.out, if_neg (by simp), if_neg (by simp), HS2.out]
        go_enter Try.func57, Try.ntmps57
        go_wp2_with fail
        rw [HW.out]
        refine wp_loop_rounds 3 ?_
        rw [rounds_succ]
        go_wp2_with (go_at_call 35; ((with_reducible refine (TA.out).mono ?_); rintro e w1 ⟨rfl, hP1, hu1⟩; have hA1 := (Below.refl w1.heap.size w1).alloc (Nat.le_refl _) (.cells #[.int .i64 ka, .string S1, .int .i64 la] 47); have hs1 := hu1.below.size; have hP2 := Lib.hid (hP1.keep hA1); have hu2 := hu1.trans (Upd.of hA1 (by omega)); have R2 := Lib.hid ((R0.out.upd hu1 (by omega)).keep hA1); obtain ⟨r2, r3⟩ := R2.out.two))
        rw [rounds_succ]
        obtain ⟨kb, lb, TB1⟩ := TB.out _ hP2.out
        have TB1 := Lib.hid TB1
        go_wp2_with (go_at_call 35; ((with_reducible refine (TB1.out).mono ?_); rintro e w3 ⟨rfl, hP3, hu3⟩; have hA3 := (Below.refl w3.heap.size w3).alloc (Nat.le_refl _) (.cells #[.int .i64 kb, .string S3, .int .i64 lb] 47); have hs3 := hu3.below.size; have hP4 := Lib.hid (hP3.keep hA3); have hs2 := hu2.below.size; have hu4 := (hu2.trans hu3).trans (Upd.of hA3 (by omega)); have R4 := Lib.hid ((R2.out.upd hu3 (by omega)).keep hA3); obtain ⟨r4, r5⟩ := R4.out.two))
        rw [rounds_succ]
        obtain ⟨kc, lc, NC1⟩ := NC.out _ hP4.out
        have NC1 := Lib.hid NC1
        go_wp2_with (go_at_call 18; ((with_reducible refine (NC1.out).mono ?_); rintro e w5 ⟨rfl, hP5, hu5⟩; have hu5b := hu4.trans hu5; have hs5 := hu5b.below.size))
        obtain ⟨kd, ld, TD1⟩ := TD.out _ hP5
        have TD1 := Lib.hid TD1
        go_wp2_with (go_at_call 35; ((with_reducible refine (TD1.out).mono ?_); rintro e w6 ⟨rfl, hP6a, hu6a⟩; have hA6 := (Below.refl w6.heap.size w6).alloc (Nat.le_refl _) (.cells #[.int .i64 kd, .string S4, .int .i64 ld] 47); have hs6 := hu6a.below.size; have hP6 := Lib.hid (hP6a.keep hA6); have hu6 := (hu5b.trans hu6a).trans (Upd.of hA6 (by omega))))
        go_ret
        exact ⟨rfl, hP6.out, (Upd.of hBd (by omega)).trans hu6⟩
      · obtain ⟨S5, hS5⟩ : ∃ S : ByteArray, (⟨(takeT T s4 2 []).2.1.toArray⟩ : ByteArray) = S := ⟨_, rfl⟩
        obtain ⟨s5, hs5⟩ : ∃ x, needS T s4 2 [] = x := ⟨_, rfl⟩
        have NE := Lib.hid (fun w' (g' : Prs B g n cap T s4 w') => need_v hT g' 2 ⟨#[]⟩ hS5)
        rw [show (⟨#[]⟩ : ByteArray).data.toList = [] from rfl, hs5] at NE
        rw [HVT.out, HVS.out, if_pos rfl, if_pos rfl, hs5, ← cat3, HS2.out, hS5]
        have HZ5 : Hid (∀ w', Prs B g n cap T s4 w' → S5.size ≤ 20000) := Lib.hid (fun w' g' => by rw [← hS5, size_mk]; exact takeT_len hT (by rw [g'.len]; exact g'.i))
        clear hs5 hS5
        go_enter Try.func57, Try.ntmps57
        go_wp2_with fail
        rw [HW.out]
        refine wp_loop_rounds 3 ?_
        rw [rounds_succ]
        go_wp2_with (go_at_call 35; ((with_reducible refine (TA.out).mono ?_); rintro e w1 ⟨rfl, hP1, hu1⟩; have hA1 := (Below.refl w1.heap.size w1).alloc (Nat.le_refl _) (.cells #[.int .i64 ka, .string S1, .int .i64 la] 47); have hs1 := hu1.below.size; have hP2 := Lib.hid (hP1.keep hA1); have hu2 := hu1.trans (Upd.of hA1 (by omega)); have R2 := Lib.hid ((R0.out.upd hu1 (by omega)).keep hA1); obtain ⟨r2, r3⟩ := R2.out.two))
        rw [rounds_succ]
        obtain ⟨kb, lb, TB1⟩ := TB.out _ hP2.out
        have TB1 := Lib.hid TB1
        go_wp2_with (go_at_call 35; ((with_reducible refine (TB1.out).mono ?_); rintro e w3 ⟨rfl, hP3, hu3⟩; have hA3 := (Below.refl w3.heap.size w3).alloc (Nat.le_refl _) (.cells #[.int .i64 kb, .string S3, .int .i64 lb] 47); have hs3 := hu3.below.size; have hP4 := Lib.hid (hP3.keep hA3); have hs2 := hu2.below.size; have hu4 := (hu2.trans hu3).trans (Upd.of hA3 (by omega)); have R4 := Lib.hid ((R2.out.upd hu3 (by omega)).keep hA3); obtain ⟨r4, r5⟩ := R4.out.two))
        rw [rounds_succ]
        obtain ⟨kc, lc, NC1⟩ := NC.out _ hP4.out
        have NC1 := Lib.hid NC1
        go_wp2_with (go_at_call 18; ((with_reducible refine (NC1.out).mono ?_); rintro e w5 ⟨rfl, hP5, hu5⟩; have hu5b := hu4.trans hu5; have hs5 := hu5b.below.size))
        obtain ⟨kd, ld, TD1⟩ := TD.out _ hP5
        have TD1 := Lib.hid TD1
        go_wp2_with (go_at_call 35; ((with_reducible refine (TD1.out).mono ?_); rintro e w6 ⟨rfl, hP6a, hu6a⟩; have hA6 := (Below.refl w6.heap.size w6).alloc (Nat.le_refl _) (.cells #[.int .i64 kd, .string S4, .int .i64 ld] 47); have hs6 := hu6a.below.size; have hP6 := Lib.hid (hP6a.keep hA6); have hu6 := (hu5b.trans hu6a).trans (Upd.of hA6 (by omega))))
        have hz5 := HZ5.out _ hP6.out
        obtain ⟨kf, lf, NE1⟩ := NE.out _ hP6.out
        have NE1 := Lib.hid NE1
        go_wp2_with (go_at_call 18; ((with_reducible refine (NE1.out).mono ?_); rintro e w7 ⟨rfl, hP7, hu7⟩; have hu8 := hu6.trans hu7))
        go_ret
        exact ⟨rfl, hP7, (Upd.of hBd (by omega)).trans hu8⟩
    · have HVT : Hid (valT T s = (takeT T s 3 []).2.1) := Lib.hid (by unfold valT; rw [if_neg (by rw [hb1]; simp), if_pos hb3, takeT_yes hb3])
      have HVS : Hid (valS T s = takeS T s 3 []) := Lib.hid (by unfold valS; rw [if_neg (by rw [hb1]; simp), if_pos hb3])
      rw [HVT.out, hS3, HVS.out]
      obtain ⟨s1, hs1⟩ : ∃ x, takeS T s 3 [] = x := ⟨_, rfl⟩
      rw [show (⟨#[]⟩ : ByteArray).data.toList = [] from rfl, hs1] at TB
      rw [hs1]
      clear hb1 hb3 hS1 hS3 hs1 HVT HVS
      go_enter Try.func57, Try.ntmps57
      go_wp2_with fail
      rw [HW.out]
      refine wp_loop_rounds 2 ?_
      rw [rounds_succ]
      go_wp2_with (go_at_call 35; ((with_reducible refine (TA.out).mono ?_); rintro e w1 ⟨rfl, hP1, hu1⟩; have hA1 := (Below.refl w1.heap.size w1).alloc (Nat.le_refl _) (.cells #[.int .i64 ka, .string S1, .int .i64 la] 47); have hs1 := hu1.below.size; have hP2 := Lib.hid (hP1.keep hA1); have hu2 := hu1.trans (Upd.of hA1 (by omega)); have R2 := Lib.hid ((R0.out.upd hu1 (by omega)).keep hA1); obtain ⟨r2, r3⟩ := R2.out.two))
      rw [rounds_succ]
      obtain ⟨kb, lb, TB1⟩ := TB.out _ hP2.out
      have TB1 := Lib.hid TB1
      go_wp2_with (go_at_call 35; ((with_reducible refine (TB1.out).mono ?_); rintro e w3 ⟨rfl, hP3, hu3⟩; have hA3 := (Below.refl w3.heap.size w3).alloc (Nat.le_refl _) (.cells #[.int .i64 kb, .string S3, .int .i64 lb] 47); have hs3 := hu3.below.size; have hP4 := Lib.hid (hP3.keep hA3); have hu4 := (hu2.trans hu3).trans (Upd.of hA3 (by have := hu2.below.size; omega))))
      go_ret
      exact ⟨rfl, hP4.out, (Upd.of hBd (by omega)).trans hu4⟩
  · have HVT : Hid (valT T s = (takeT T s 1 []).2.1) := Lib.hid (by unfold valT; rw [if_pos hb1, takeT_yes hb1])
    have HVS : Hid (valS T s = takeS T s 1 []) := Lib.hid (by unfold valS; rw [if_pos hb1])
    rw [HVT.out, hS1, HVS.out]
    obtain ⟨s1, hs1⟩ : ∃ x, takeS T s 1 [] = x := ⟨_, rfl⟩
    rw [show (⟨#[]⟩ : ByteArray).data.toList = [] from rfl, hs1] at TA
    rw [hs1]
    clear hb1 hS1 hs1 HVT HVS
    obtain ⟨r0, r1⟩ := R0.out.two
    go_enter Try.func57, Try.ntmps57
    go_wp2_with fail
    rw [HW.out]
    refine wp_loop_rounds 1 ?_
    rw [rounds_succ]
    go_wp2_with (go_at_call 35; ((with_reducible refine (TA.out).mono ?_); rintro e w1 ⟨rfl, hP1, hu1⟩; have hA1 := (Below.refl w1.heap.size w1).alloc (Nat.le_refl _) (.cells #[.int .i64 ka, .string S1, .int .i64 la] 47); have hs1 := hu1.below.size; have hP2 := Lib.hid (hP1.keep hA1); have hu2 := hu1.trans (Upd.of hA1 (by omega))))
    go_ret
    exact ⟨rfl, hP2.out, (Upd.of hBd (by omega)).trans hu2⟩

end Go.Proofs.Ythdcgplocdehjaa

/- The parser: field. -/
namespace Go.Proofs.Ythdcgplocdehjaa
open Go.RowKit Go.Proofs.Kit

theorem takeS_mono (T : List Tok) (s : St) (kind : Int) (text : List UInt8) : s.i ≤ (takeS T s kind text).i := by
  unfold takeS nextP
  split
  · split
    · exact Nat.le_refl _
    · exact Nat.le_succ _
  · exact Nat.le_refl _
theorem needS_mono (T : List Tok) (s : St) (kind : Int) (text : List UInt8) : s.i ≤ (needS T s kind text).i := by
  unfold needS nextP failP
  split
  · split
    · exact Nat.le_refl _
    · exact Nat.le_succ _
  · split <;> exact Nat.le_refl _
theorem valS_mono (T : List Tok) (s : St) : s.i ≤ (valS T s).i := by
  unfold valS
  split
  · exact takeS_mono _ _ _ _
  · split
    · exact takeS_mono _ _ _ _
    · split
      · exact Nat.le_trans (needS_mono _ _ _ _) (Nat.le_trans (takeS_mono _ _ _ _) (needS_mono _ _ _ _))
      · exact needS_mono _ _ _ _
/-- The values behind the first one. -/
def comT (T : List Tok) : Nat → St → List (List UInt8)
  | 0, _ => []
  | f + 1, s => if isP T s 4 [44] then valT T (takeS T s 4 [44]) :: comT T f (valS T (takeS T s 4 [44])) else []
def comS (T : List Tok) : Nat → St → St
  | 0, s => s
  | f + 1, s => if isP T s 4 [44] then comS T f (valS T (takeS T s 4 [44])) else s
abbrev Fld := List UInt8 × List (List UInt8) × Nat
def fldT (T : List Tok) (s : St) : Fld := ((takeT T s 1 []).2.1, valT T (needS T s 1 []) :: comT T T.length (valS T (needS T s 1 [])), (takeT T s 1 []).2.2)
def fldS (T : List Tok) (s : St) : St := needS T (comS T T.length (valS T (needS T s 1 []))) 4 [59]
def strV (l : List UInt8) : Value := .string ⟨l.toArray⟩
/-- A row of strings of the call's own. -/
abbrev OwnS (w : World) (base : Nat) (v : Value) (l : List (List UInt8)) : Prop := w.ownsRow base 9 1 v l.length (l.map strV)
theorem ownsRow_upd {w w' : World} {B base size n : Nat} {e : TypeId} {v : Value} {cs : List Value} (h : w.ownsRow base e size v n cs) (hu : Upd B w w') (hB : B < base) : w'.ownsRow base e size v n cs := by
  refine ⟨h.1, ?_⟩
  rcases h.2 with hn | ⟨g, cap, cur, rfl, hg, hgg, rest⟩
  · exact .inl hn
  · refine .inr ⟨g, cap, cur, rfl, hg, ?_, rest⟩
    rw [hu.heap g (Array.getElem?_eq_some_iff.1 hgg).1 (by omega)]
    exact hgg
theorem erS : ElemRow Try.prog 40 9 (.string ⟨#[]⟩) 1 16 := ⟨Try.underlying40, by kernel_rfl, rfl, by decide⟩

theorem Upd.drew (B : Nat) (w : World) (hB : B ≤ w.heap.size) : Upd B w w.drew := Upd.of (Below.refl _ _).drew hB
theorem Upd.alloc {B : Nat} {w : World} (hB : B ≤ w.heap.size) (o : Obj) : Upd B w (w.alloc o) := Upd.of ((Below.refl _ _).alloc (Nat.le_refl _) o) hB
/-- What is known while a parser runs: Q is what else stands. -/
structure Kn (B g n cap : Nat) (T : List Tok) (s : St) (w : World) (Q : World → Prop) (W : World) : Prop where
  p : Prs B g n cap T s W
  q : Q W
  u : Upd B w W
  st : ∀ W W', Upd B W W' → Q W → Q W'
theorem Kn.le {B g n cap : Nat} {T : List Tok} {s : St} {w W : World} {Q : World → Prop} (h : Kn B g n cap T s w Q W) : B ≤ W.heap.size := Nat.le_of_lt h.p.blk.1
theorem Kn.drew {B g n cap : Nat} {T : List Tok} {s : St} {w W : World} {Q : World → Prop} (h : Kn B g n cap T s w Q W) : Kn B g n cap T s w Q W.drew :=
  ⟨h.p.keep (Below.refl _ _).drew, h.st _ _ (Upd.drew _ _ h.le) h.q, h.u.trans (Upd.drew _ _ h.le), h.st⟩
theorem Kn.alloc {B g n cap : Nat} {T : List Tok} {s : St} {w W : World} {Q : World → Prop} (h : Kn B g n cap T s w Q W) (o : Obj) : Kn B g n cap T s w Q (W.alloc o) :=
  ⟨h.p.keep ((Below.refl _ _).alloc (Nat.le_refl _) o), h.st _ _ (Upd.alloc h.le o) h.q, h.u.trans (Upd.alloc h.le o), h.st⟩
theorem Kn.step {B g n cap : Nat} {T : List Tok} {s s' : St} {w W W' : World} {Q : World → Prop} (h : Kn B g n cap T s w Q W) (hu : Upd B W W') (hp : Prs B g n cap T s' W') : Kn B g n cap T s' w Q W' :=
  ⟨hp, h.st _ _ hu h.q, h.u.trans hu, h.st⟩
/-- A further fact. -/
theorem Kn.with_ {B g n cap : Nat} {T : List Tok} {s : St} {w W : World} {Q R : World → Prop} (h : Kn B g n cap T s w Q W) (hr : R W) (hs : ∀ W W', Upd B W W' → R W → R W') : Kn B g n cap T s w (fun W => Q W ∧ R W) W :=
  ⟨h.p, ⟨h.q, hr⟩, h.u, fun W W' hu k => ⟨h.st W W' hu k.1, hs W W' hu k.2⟩⟩
theorem Kn.weak {B g n cap : Nat} {T : List Tok} {s : St} {w W : World} {Q R : World → Prop} (h : Kn B g n cap T s w Q W) (hr : Q W → R W) (hs : ∀ W W', Upd B W W' → R W → R W') : Kn B g n cap T s w R W := ⟨h.p, hr h.q, h.u, hs⟩
theorem bk_st {B b : Nat} {cs : Array Value} (hne : b ≠ B) : ∀ W W', Upd B W W' → Bk b cs W → Bk b cs W' := fun _ _ hu k => k.upd hu hne

def fldZ : Array Value := #[.string ⟨#[]⟩, .slice none 0 0, .int .i64 0]
/-- A field under construction in block F; block R is for the result. -/
def QF (R F base : Nat) (S : ByteArray) (l : Nat) (u : Value) (vals : List Value) (W : World) : Prop := Bk R fldZ W ∧ Bk F #[.string S, u, .int .i64 l] W ∧ W.ownsRow base 9 1 u vals.length vals ∧ ∀ b, u.ownBlock = some b → b ≠ R ∧ b ≠ F
theorem QF.st {B R F base : Nat} {S : ByteArray} {l : Nat} {u : Value} {vals : List Value} (h1 : R ≠ B) (h2 : F ≠ B) (h3 : B < base) : ∀ W W', Upd B W W' → QF R F base S l u vals W → QF R F base S l u vals W' :=
  fun _ _ hu k => ⟨k.1.upd hu h1, k.2.1.upd hu h2, ownsRow_upd k.2.2.1 hu h3, k.2.2.2⟩
theorem bk_off3 {b F : Nat} {cs : Array Value} {w : World} (h : Bk b cs w) (hne : b ≠ F) (x y z : Value) : Bk b cs (((w.setCell ⟨F, 0, none⟩ x).setCell ⟨F, 1, none⟩ y).setCell ⟨F, 2, none⟩ z) :=
  h.same (by rw [Below.heap_setCell _ ⟨F, 2, none⟩ _ b hne, Below.heap_setCell _ ⟨F, 1, none⟩ _ b hne, Below.heap_setCell _ ⟨F, 0, none⟩ _ b hne]) (by simp)
theorem Bk.newAt {b : Nat} (w : World) (cs : Array Value) (T : TypeId) (h : b = w.heap.size) : Bk b cs (w.alloc (.cells cs T)) := by subst h; exact Bk.new w cs T
theorem one_own (w : World) (base : Nat) (V : ByteArray) (h : base ≤ w.heap.size) : (w.alloc (.cells #[.string V] 9)).ownsRow base 9 1 (.slice (some ⟨w.heap.size, 0, none⟩) 1 1) 1 [.string V] :=
  World.ownsRow_lit (base := base) (e := 9) (size := 1) w #[.string V] 1 h (by unfold maxLen; omega) rfl
section
variable {B g n cap R : Nat} {T : List Tok} {s : St} {w W : World} {S V : ByteArray} {l : Nat}
theorem QF.a (h : Kn B g n cap T s w (Bk R fldZ) W) (hR : R ≠ B) (hB : B < w.heap.size) :
    Kn B g n cap T s w (QF R (W.heap.size + 1) w.heap.size S l (.slice (some ⟨W.heap.size, 0, none⟩) 1 1) [.string V]) ((W.alloc (.cells #[.string V] 9)).alloc (.cells #[.string S, .slice (some ⟨W.heap.size, 0, none⟩) 1 1, .int .i64 l] 42)) := by
  have hs := h.u.below.size
  have k := (h.alloc (.cells #[.string V] 9)).alloc (.cells #[.string S, .slice (some ⟨W.heap.size, 0, none⟩) 1 1, .int .i64 l] 42)
  have hRl := h.q.1
  exact ⟨k.p, ⟨k.q, Bk.newAt _ _ _ (by simp), ownsRow_below (one_own W w.heap.size V hs) ((Below.refl _ _).alloc (Nat.le_refl _) _), fun b hb => by
    have e : W.heap.size = b := by simpa [Value.ownBlock] using hb
    omega⟩, k.u, QF.st hR (by omega) hB⟩
theorem QF.b (h : Kn B g n cap T s w (Bk R fldZ) W) (hR : R ≠ B) (hB : B < w.heap.size) :
    Kn B g n cap T s w (QF R W.heap.size w.heap.size S l (.slice (some ⟨W.heap.size + 1, 0, none⟩) 1 1) [.string V]) ((W.alloc (.cells #[.string S, .slice (some ⟨W.heap.size + 1, 0, none⟩) 1 1, .int .i64 l] 42)).alloc (.cells #[.string V] 9)) := by
  have hs := h.u.below.size
  have k := (h.alloc (.cells #[.string S, .slice (some ⟨W.heap.size + 1, 0, none⟩) 1 1, .int .i64 l] 42)).alloc (.cells #[.string V] 9)
  have ho := one_own (W.alloc (.cells #[.string S, .slice (some ⟨W.heap.size + 1, 0, none⟩) 1 1, .int .i64 l] 42)) w.heap.size V (by simp; omega)
  rw [World.size_alloc] at ho
  have hRl := h.q.1
  exact ⟨k.p, ⟨k.q, (Bk.new W _ _).keep ((Below.refl _ _).alloc (Nat.le_refl _) _), ho, fun b hb => by
    have e : W.heap.size + 1 = b := by simpa [Value.ownBlock] using hb
    omega⟩, k.u, QF.st hR (by omega) hB⟩
theorem QF.c {F : Nat} (h : Kn B g n cap T s w (fun W => Bk R fldZ W ∧ Bk F fldZ W) W) (hR : R ≠ B) (hB : B < w.heap.size) (hF : w.heap.size ≤ F) (hFR : R ≠ F) (hg : g ≠ F) :
    Kn B g n cap T s w (QF R F w.heap.size S l (.slice (some ⟨W.heap.size, 0, none⟩) 1 1) [.string V]) ((((W.setCell ⟨F, 0, none⟩ (.string S)).setCell ⟨F, 1, none⟩ (.slice (some ⟨W.heap.size, 0, none⟩) 1 1)).setCell ⟨F, 2, none⟩ (.int .i64 l)).alloc (.cells #[.string V] 9)) := by
  have hs := h.u.below.size
  have hp : Prs B g n cap T s (((W.setCell ⟨F, 0, none⟩ (.string S)).setCell ⟨F, 1, none⟩ (.slice (some ⟨W.heap.size, 0, none⟩) 1 1)).setCell ⟨F, 2, none⟩ (.int .i64 l)) := ((h.p.off (by omega) (Ne.symm hg)).off (by omega) (Ne.symm hg)).off (by omega) (Ne.symm hg)
  have hu : Upd B w (((W.setCell ⟨F, 0, none⟩ (.string S)).setCell ⟨F, 1, none⟩ (.slice (some ⟨W.heap.size, 0, none⟩) 1 1)).setCell ⟨F, 2, none⟩ (.int .i64 l)) := ((h.u.off hF (by omega)).off hF (by omega)).off hF (by omega)
  have hr : Bk R fldZ (((W.setCell ⟨F, 0, none⟩ (.string S)).setCell ⟨F, 1, none⟩ (.slice (some ⟨W.heap.size, 0, none⟩) 1 1)).setCell ⟨F, 2, none⟩ (.int .i64 l)) := h.q.1.same (by rw [Below.heap_setCell _ ⟨F, 2, none⟩ _ R hFR, Below.heap_setCell _ ⟨F, 1, none⟩ _ R hFR, Below.heap_setCell _ ⟨F, 0, none⟩ _ R hFR]) (by simp)
  have hf : Bk F #[.string S, .slice (some ⟨W.heap.size, 0, none⟩) 1 1, .int .i64 l] (((W.setCell ⟨F, 0, none⟩ (.string S)).setCell ⟨F, 1, none⟩ (.slice (some ⟨W.heap.size, 0, none⟩) 1 1)).setCell ⟨F, 2, none⟩ (.int .i64 l)) :=
    ((h.q.2.put (o := 0) (by simp [fldZ]) (.string S)).put (o := 1) (by simp [fldZ]) (.slice (some ⟨W.heap.size, 0, none⟩) 1 1)).put (o := 2) (by simp [fldZ]) (.int .i64 l)
  have hz : (((W.setCell ⟨F, 0, none⟩ (.string S)).setCell ⟨F, 1, none⟩ (.slice (some ⟨W.heap.size, 0, none⟩) 1 1)).setCell ⟨F, 2, none⟩ (.int .i64 l)).heap.size = W.heap.size := by simp
  revert hp hu hr hf hz
  generalize (((W.setCell ⟨F, 0, none⟩ (.string S)).setCell ⟨F, 1, none⟩ (.slice (some ⟨W.heap.size, 0, none⟩) 1 1)).setCell ⟨F, 2, none⟩ (.int .i64 l)) = Y
  intro hp hu hr hf hz
  have ho := one_own Y w.heap.size V (by omega)
  rw [hz] at ho
  have hA := (Below.refl Y.heap.size Y).alloc (Nat.le_refl _) (.cells #[.string V] 9)
  have hRl := h.q.1.1
  have hFl := h.q.2.1
  exact ⟨hp.keep hA, ⟨hr.keep hA, hf.keep hA, ho, fun b hb => by
    have e : W.heap.size = b := by simpa [Value.ownBlock] using hb
    omega⟩, hu.trans (Upd.of hA (by omega)), QF.st hR (by omega) hB⟩
end

/-- append(s, x) at a step of a region that draws; x one string just laid in a new block. -/
theorem step_append_str {ops : Array Oper} {o : Oper} {a : Act} {K : Act → World → Prop} {Q : Exit → Act → World → Prop} {E0 : Prop} (hgd : o.guard = none) {s x : Operand}
    (ho : o.op = .call { callee := .builtin .append, args := #[s, x], argTypes := #[40, 40] })
    {w : World} {base : Nat} {v : Value} {n : Nat} {xs : List Value} {b : Nat} {V : ByteArray} (hown : w.ownsRow base 9 1 v n xs)
    (hs : a.eval s = v) (hx : a.eval x = .slice (some ⟨b, 0, none⟩) 1 1) (hc : w.cell? ⟨b, 0, none⟩ = some (.string V))
    (hn : n ≤ 1000000) (hbase : base ≤ w.heap.size)
    (h : ∀ v' w', w'.ownsRow base 9 1 v' (n + 1) (xs ++ [.string V]) → Below base w w' → w.grownBy w' v.ownBlock → (v'.ownBlock = v.ownBlock ∨ ∃ g, v'.ownBlock = some g ∧ w.heap.size ≤ g) → K (a.put o.dst v') w') :
    if Region.wanted o (yielded ops a.tmps) = true then Oper.wp Try.prog o a w K Q else E0 := by
  obtain ⟨i, hi, hz0, hz1, hz2⟩ := info_parts erS.hi
  refine step_append_lies w hgd s x 40 ho base 9 i (.string ⟨#[]⟩) 1 16 erS.ht hi hz0 hz1 hz2 erS.hzs erS.hsz v n xs hs hown ⟨b, 0, none⟩ 1 1 [.string V] hx rfl (fun j u hj => ?_) (fun u hu => by rw [List.mem_singleton.1 hu]; rfl) (by omega) (by unfold maxLen; omega) (by omega) hbase _ rfl fun g cp w' h2 h3 h4 h5 => ?_
  · have hj0 : j = 0 := by
      rcases j with _ | j
      · rfl
      · simp at hj
    subst hj0
    have e : u = .string V := by simpa using hj.symm
    rw [e]
    exact hc
  · have hv : (Value.slice (some ⟨g, 0, none⟩) (n + 1) cp).ownBlock = v.ownBlock ∨ ∃ g', (Value.slice (some ⟨g, 0, none⟩) (n + 1) cp).ownBlock = some g' ∧ w.heap.size ≤ g' := by
      rcases h4 with h4 | h4
      · exact .inl (by rw [h4]; rfl)
      · exact .inr ⟨g, rfl, by omega⟩
    exact h _ w' h2 ((Below.refl base w).grown h3 hbase fun g' hg' => (hown.lt g' hg').1) h3 hv

end Go.Proofs.Ythdcgplocdehjaa
