/- Rows whose elements are read by a relation of one's own. Over any program. -/
import Derived.Test.YthdcgplocdehjaaGK
import Derived.Deep.AppendLies
import Derived.Deep.RegionLaw
namespace Go.Proofs.Kit
open Go.RowKit

/-- R is read off the blocks F alone. -/
def On (F : Nat → Prop) (R : World → Prop) (w : World) : Prop := ∀ w', (∀ b, F b → w'.heap[b]? = w.heap[b]?) → R w'
section
variable {F G : Nat → Prop} {R S : World → Prop} {w w' : World} {B B' : Nat}
theorem On.now (h : On F R w) : R w := h w fun _ _ => rfl
theorem On.mono (h : On F R w) (hF : ∀ b, F b → G b) : On G R w := fun w' hw => h w' fun b hb => hw b (hF b hb)
theorem On.step (h : On F R w) (hw : ∀ b, F b → w'.heap[b]? = w.heap[b]?) : On F R w' := fun w2 h2 => h w2 fun b hb => (h2 b hb).trans (hw b hb)
theorem On.imp (h : On F R w) (hR : ∀ w', R w' → S w') : On F S w := fun w' hw => hR w' (h w' hw)
theorem On.both (h : On F R w) (k : On F S w) : On F (fun w => R w ∧ S w) w := fun w' hw => ⟨h w' hw, k w' hw⟩

/-- R is read off blocks that were made from block B on. -/
def Made (B : Nat) (R : World → Prop) (w : World) : Prop := On (fun b => B ≤ b ∧ b < w.heap.size) R w
theorem Made.now (h : Made B R w) : R w := On.now h
theorem Made.mono (h : Made B R w) (hB : B' ≤ B) : Made B' R w := On.mono h fun _ hb => ⟨Nat.le_trans hB hb.1, hb.2⟩
theorem Made.keep (h : Made B R w) (hb : Below w.heap.size w w') : Made B R w' :=
  On.mono (On.step h fun b k => hb.block b k.2) fun _ k => ⟨k.1, Nat.lt_of_lt_of_le k.2 hb.size⟩
theorem Made.off (h : Made B R w) {o : Option Nat} (ho : ∀ g, o = some g → g < B) : On (fun b => B ≤ b ∧ b < w.heap.size ∧ o ≠ some b) R w :=
  On.mono h fun b hb => ⟨hb.1, hb.2, fun e => by have := ho b e; omega⟩
theorem Made.imp (h : Made B R w) (hR : ∀ w', R w' → S w') : Made B S w := On.imp h hR
theorem Made.both (h : Made B R w) (k : Made B S w) : Made B (fun w => R w ∧ S w) w := On.both h k
theorem Made.of_true (h : ∀ w, R w) : Made B R w := fun w' _ => h w'
end

/-- A row is read off its own block. -/
theorem RowAt.on_own {w : World} {v : Value} {cs : List Value} (h : RowAt w v cs) : On (fun b => v.ownBlock = some b) (fun w => RowAt w v cs) w :=
  fun _ hw => h.same fun b hb => hw b hb
theorem RowAt.block_lt {w : World} {v : Value} {cs : List Value} (h : RowAt w v cs) (hne : cs ≠ []) {b : Nat} (hb : v.ownBlock = some b) : b < w.heap.size := by
  rcases h.cases with ⟨h0, _⟩ | ⟨_, b', off, cap, rfl, _, _, hlt, _⟩
  · exact absurd h0 hne
  · have : b' = b := by simpa [Value.ownBlock] using hb
    omega
/-- A row that lies in blocks made from B on. -/
theorem RowAt.made {w : World} {v : Value} {cs : List Value} {B : Nat} (h : RowAt w v cs) (hB : ∀ b, v.ownBlock = some b → B ≤ b) : Made B (fun w => RowAt w v cs) w := by
  by_cases hne : cs = []
  · subst hne
    obtain ⟨p, cap, rfl, h1, h2, h3, h4⟩ := h
    exact fun w' _ => ⟨p, cap, rfl, h1, h2, h3, fun q _ i u hi => by simp at hi⟩
  · exact On.mono h.on_own fun b hb => ⟨hB b hb, h.block_lt hne hb⟩

/-- The cells of elements, one behind the other. -/
theorem flat_at {α : Type} {k : Nat} {css : List (List α)} (hk : ∀ c ∈ css, c.length = k) {i j : Nat} {c : List α} {u : α} (hi : css[i]? = some c) (hj : c[j]? = some u) :
    css.flatten[i * k + j]? = some u := by
  induction css generalizing i with
  | nil => simp at hi
  | cons d css ih =>
    have hd : d.length = k := hk d (by simp)
    rw [List.flatten_cons]
    cases i with
    | zero =>
      have e : d = c := by simpa using hi
      subst e
      rw [Nat.zero_mul, Nat.zero_add, List.getElem?_append_left (List.getElem?_eq_some_iff.1 hj).1]
      exact hj
    | succ i =>
      have h2 : css[i]? = some c := by simpa using hi
      rw [List.getElem?_append_right (by rw [hd, Nat.add_mul]; omega), hd, show (i + 1) * k + j - k = i * k + j by rw [Nat.add_mul]; omega]
      exact ih (fun c hc => hk c (by simp [hc])) h2
theorem flat_len {α : Type} {k : Nat} {css : List (List α)} (hk : ∀ c ∈ css, c.length = k) : css.flatten.length = css.length * k := by
  induction css with
  | nil => simp
  | cons d css ih =>
    rw [List.flatten_cons, List.length_append, ih (fun c hc => hk c (by simp [hc])), hk d (by simp), List.length_cons, Nat.add_mul]
    omega

/-- v is a slice of the elements l; an element takes k cells, which R reads. -/
def SliceOf {α : Type} (R : World → List Value → α → Prop) (k : Nat) (w : World) (v : Value) (l : List α) : Prop :=
  ∃ (css : List (List Value)) (p : Option Addr) (cap : Nat), v = .slice p l.length cap ∧ l.length ≤ cap ∧ cap ≤ 9223372036854775807 ∧ (p = none → cap = 0) ∧ css.length = l.length ∧ (∀ c ∈ css, c.length = k) ∧
    (∀ (q : Addr), p = some q → ∀ (i : Nat) (c : List Value) (j : Nat) (u : Value), css[i]? = some c → c[j]? = some u → w.cell? (q.add (i * k + j)) = some u) ∧ ∀ (i : Nat) (c : List Value) (x : α), css[i]? = some c → l[i]? = some x → R w c x

section
variable {α : Type} {R : World → List Value → α → Prop} {k : Nat} {w w' : World} {v : Value} {l : List α}
theorem SliceOf.nil (w : World) : SliceOf R k w (.slice none 0 0) ([] : List α) :=
  ⟨[], none, 0, rfl, Nat.le_refl _, by omega, fun _ => rfl, rfl, fun c hc => by simp at hc, fun q hq => by simp at hq, fun i c x hi => by simp at hi⟩
theorem SliceOf.shape (h : SliceOf R k w v l) : ∃ p cap, v = .slice p l.length cap ∧ l.length ≤ cap ∧ cap ≤ 9223372036854775807 := by
  obtain ⟨css, p, cap, rfl, h1, h2, _⟩ := h
  exact ⟨p, cap, rfl, h1, h2⟩
theorem SliceOf.len (h : SliceOf R k w v l) : l.length ≤ 9223372036854775807 := by
  obtain ⟨p, cap, _, h1, h2⟩ := h.shape
  omega
theorem SliceOf.keep (h : SliceOf R k w v l) (hb : Below w.heap.size w w') (hR : ∀ c x, R w c x → R w' c x) : SliceOf R k w' v l := by
  obtain ⟨css, p, cap, rfl, h1, h2, h3, h4, h5, h6, h7⟩ := h
  refine ⟨css, p, cap, rfl, h1, h2, h3, h4, h5, fun q hq i c j u hi hj => ?_, fun i c x hi hx => hR c x (h7 i c x hi hx)⟩
  have := h6 q hq i c j u hi hj
  exact (hb.cell (p := q.add (i * k + j)) (World.block_lt_of_cell? w _ this)).trans this
/-- The element at i. -/
theorem SliceOf.at_ (hk : 0 < k) (h : SliceOf R k w v l) {i : Nat} (hi : i < l.length) :
    ∃ b off cap c, v = .slice (some ⟨b, off, none⟩) l.length cap ∧ l.length ≤ cap ∧ cap ≤ 9223372036854775807 ∧ c.length = k ∧ R w c l[i] ∧ ∀ j u, c[j]? = some u → w.cell? ⟨b, off + (i * k + j), none⟩ = some u := by
  obtain ⟨css, p, cap, rfl, h1, h2, h3, h4, h5, h6, h7⟩ := h
  have hic : i < css.length := by omega
  have hc := List.getElem?_eq_getElem hic
  have hlen := h5 _ (List.getElem_mem hic)
  cases p with
  | none => have := h3 rfl; omega
  | some q =>
    obtain ⟨b, off, spot⟩ := q
    have h00 : 0 < css.length := by omega
    have h0 : 0 < (css[0]'h00).length := by rw [h5 _ (List.getElem_mem h00)]; exact hk
    have hcell := h6 _ rfl 0 _ 0 _ (List.getElem?_eq_getElem h00) (List.getElem?_eq_getElem h0)
    rw [Nat.zero_mul] at hcell
    have hspot : spot = none := by simpa [Addr.add] using World.cell?_spot hcell
    subst hspot
    refine ⟨b, off, cap, _, rfl, h1, h2, hlen, h7 i _ _ hc (List.getElem?_eq_getElem hi), fun j u hj => ?_⟩
    have := h6 _ rfl i _ j u hc hj
    rw [Addr.add_lit] at this
    exact this
end

/-- A list under construction: v owns a row in a block from base on; each element is read off blocks from B on, none of them v's own. -/
structure Lst {α : Type} (R : World → List Value → α → Prop) (B base : Nat) (e : TypeId) (k : Nat) (v : Value) (w : World) (l : List α) (css : List (List Value)) : Prop where
  own : w.ownsRow base e k v l.length css.flatten
  len : css.length = l.length
  siz : ∀ c ∈ css, c.length = k
  elt : ∀ (i : Nat) (c : List Value) (x : α), css[i]? = some c → l[i]? = some x → On (fun b => B ≤ b ∧ b < w.heap.size ∧ v.ownBlock ≠ some b) (fun w => R w c x) w

section
variable {α : Type} {R : World → List Value → α → Prop} {B base k : Nat} {e : TypeId} {w w' : World} {v v' : Value} {l : List α} {css : List (List Value)}
theorem Lst.nil (w : World) : Lst R B base e k (.slice none 0 0) w ([] : List α) [] :=
  ⟨World.ownsRow_nil _ _ _ _, rfl, fun c hc => by simp at hc, fun i c x hi => by simp at hi⟩
theorem Lst.keep (h : Lst R B base e k v w l css) (hb : Below w.heap.size w w') : Lst R B base e k v w' l css :=
  ⟨ownsRow_below h.own hb, h.len, h.siz, fun i c x hi hx => On.mono (On.step (h.elt i c x hi hx) fun b hb' => hb.block b hb'.2.1) fun _ hb' => ⟨hb'.1, Nat.lt_of_lt_of_le hb'.2.1 hb.size, hb'.2.2⟩⟩
theorem Lst.push (h : Lst R B base e k v w l css) {c : List Value} {x : α} (hc : c.length = k) (hx : On (fun b => B ≤ b ∧ b < w.heap.size ∧ v.ownBlock ≠ some b) (fun w => R w c x) w)
    (hown : w'.ownsRow base e k v' (l.length + 1) (css.flatten ++ c)) (hg : w.grownBy w' v.ownBlock) (hv : v'.ownBlock = v.ownBlock ∨ ∃ g, v'.ownBlock = some g ∧ w.heap.size ≤ g) :
    Lst R B base e k v' w' (l ++ [x]) (css ++ [c]) := by
  have hF : ∀ {S : World → Prop}, On (fun b => B ≤ b ∧ b < w.heap.size ∧ v.ownBlock ≠ some b) S w → On (fun b => B ≤ b ∧ b < w'.heap.size ∧ v'.ownBlock ≠ some b) S w' := fun hS =>
    On.mono (On.step hS fun b hb => hg.block b hb.2.1 (fun e => hb.2.2 e.symm)) fun b hb => ⟨hb.1, Nat.lt_of_lt_of_le hb.2.1 hg.size, fun e => by
      rcases hv with hv | ⟨g, hv, hgl⟩
      · exact hb.2.2 (hv.symm.trans e)
      · rw [hv] at e
        have := Option.some.inj e
        have := hb.2.1
        omega⟩
  refine ⟨?_, by simp [h.len], fun c' hc' => ?_, fun i c' x' hi hx' => ?_⟩
  · rw [List.length_append, List.length_singleton]
    simpa using hown
  · rcases List.mem_append.1 hc' with hm | hm
    · exact h.siz c' hm
    · rw [List.mem_singleton.1 hm]; exact hc
  · by_cases hlt : i < css.length
    · rw [List.getElem?_append_left hlt] at hi
      rw [List.getElem?_append_left (by have := h.len; omega)] at hx'
      exact hF (h.elt i c' x' hi hx')
    · have hi2 := (List.getElem?_eq_some_iff.1 hi).1
      rw [List.length_append, List.length_singleton] at hi2
      have hii : i = css.length := by omega
      subst hii
      rw [List.getElem?_append_right (Nat.le_refl _), Nat.sub_self] at hi
      rw [h.len, List.getElem?_append_right (Nat.le_refl _), Nat.sub_self] at hx'
      have e1 : c = c' := by simpa using hi
      have e2 : x = x' := by simpa using hx'
      subst e1; subst e2
      exact hF hx
/-- It reads. -/
theorem Lst.slice (h : Lst R B base e k v w l css) : SliceOf R k w v l := by
  obtain ⟨h1, h2, h3, h4⟩ := h
  have hel : ∀ i c x, css[i]? = some c → l[i]? = some x → R w c x := fun i c x hi hx => (h4 i c x hi hx).now
  rcases h1.2 with ⟨rfl, hn⟩ | ⟨g, cap, cur, rfl, hg, hgg, hc, hm, hs, ht⟩
  · have : l = [] := List.eq_nil_of_length_eq_zero hn
    subst this
    exact SliceOf.nil w
  · refine ⟨css, _, cap, rfl, hc, by unfold maxLen at hm; omega, fun hh => by simp at hh, h2, h3, fun q hq i c j u hi hj => ?_, hel⟩
    obtain rfl := Option.some.inj hq
    have hf := flat_at h3 hi hj
    rw [Addr.add_lit, Nat.zero_add, cell_of_row w g _ cur e (0, 0) hgg]
    rw [← ht, List.getElem?_take] at hf
    split at hf
    · simpa using hf
    · simp at hf
/-- It is read off blocks from B' on. -/
theorem Lst.made (h : Lst R B base e k v w l css) {B' : Nat} (h1 : B' ≤ B) (h2 : B' ≤ base) : Made B' (fun w => SliceOf R k w v l) w := by
  intro w' hw
  have hown : w'.ownsRow base e k v l.length css.flatten := by
    refine ⟨h.own.1, ?_⟩
    rcases h.own.2 with hn | ⟨g, cap, cur, rfl, hg, hgg, rest⟩
    · exact .inl hn
    · refine .inr ⟨g, cap, cur, rfl, hg, ?_, rest⟩
      rw [hw g ⟨Nat.le_trans h2 hg, (Array.getElem?_eq_some_iff.1 hgg).1⟩]
      exact hgg
  have hs := h.slice
  obtain ⟨css', p, cap, e1, s1, s2, s3, s4, s5, s6, s7⟩ := Lst.slice (w := w') (R := fun _ _ _ => True) (B := 0) (base := base) (e := e) (k := k) (v := v) (l := l) (css := css) ⟨hown, h.len, h.siz, fun _ _ _ _ _ _ _ => trivial⟩
  rcases hown.2 with ⟨rfl, hn⟩ | ⟨g, cap', cur, rfl, hg, hgg, hc, hm, hsz, ht⟩
  · have : l = [] := List.eq_nil_of_length_eq_zero hn
    subst this
    exact SliceOf.nil w'
  · refine ⟨css, _, cap', rfl, hc, by unfold maxLen at hm; omega, fun hh => by simp at hh, h.len, h.siz, fun q hq i c j u hi hj => ?_, fun i c x hi hx => ?_⟩
    · obtain rfl := Option.some.inj hq
      have hf := flat_at h.siz hi hj
      rw [Addr.add_lit, Nat.zero_add, cell_of_row w' g _ cur e (0, 0) hgg]
      rw [← ht, List.getElem?_take] at hf
      split at hf
      · simpa using hf
      · simp at hf
    · exact h.elt i c x hi hx w' fun b hb => hw b ⟨Nat.le_trans h1 hb.1, hb.2.1⟩
theorem Lst.lt (h : Lst R B base e k v w l css) : ∀ g, v.ownBlock = some g → base ≤ g ∧ g < w.heap.size := fun g hg => h.own.lt g hg
end

section
variable {P : Program} {t e : TypeId} {z : Value} {k bytes : Nat} {α : Type} {R : World → List Value → α → Prop} {B base : Nat} {v : Value} {l : List α} {css : List (List Value)}
/-- append(s, x), x one element just laid in a new block. -/
theorem append_lst (E : ElemRow P t e z k bytes)
    {ops : Array Oper} {rest : List Oper} {o : Oper} {a : Act} {Q : Exit → Act → World → Prop} (hgd : o.guard = none) {s x : Operand}
    (ho : o.op = .call { callee := .builtin .append, args := #[s, x], argTypes := #[t, t] })
    {w : World} {cs : Array Value} {e' : TypeId} {fz : Nat × Nat} (hL : Lst R B base e k v w l css)
    (hs : a.eval s = v) (hx : a.eval x = .slice (some ⟨w.heap.size, 0, none⟩) 1 1)
    (hl : cs.size = k) (h1 : ∀ u ∈ cs.toList, u.oneCell' = true) (hn : (l.length + 1) * bytes ≤ 140737488355328) (hn' : l.length + 1 ≤ 9223372036854775807) (hbase : base ≤ w.heap.size)
    {y : α} (hy : On (fun b => B ≤ b ∧ b < w.heap.size ∧ v.ownBlock ≠ some b) (fun w => R w cs.toList y) w)
    (h : ∀ v' w', Lst R B base e k v' w' (l ++ [y]) (css ++ [cs.toList]) → Below base w w' → w.grownBy w' v.ownBlock → (v'.ownBlock = v.ownBlock ∨ ∃ g, v'.ownBlock = some g ∧ w.heap.size ≤ g) → wpList P ops Q rest (a.put o.dst v') w') :
    wpList P ops Q (o :: rest) a (w.alloc (.cells cs e' fz)) := by
  refine append_fresh E hgd ho hL.own hs hx hl h1 hn hn' hbase fun v' w' h2 h3 h4 h5 h6 => ?_
  exact h v' w' (hL.push (by rw [Array.length_toList]; exact hl) hy h2 h3 h6) h4 h3 h6

/-- The same at a step of a region that draws its order. -/
theorem step_append_lst (E : ElemRow P t e z k bytes)
    {ops : Array Oper} {o : Oper} {a : Act} {K : Act → World → Prop} {Q : Exit → Act → World → Prop} {E0 : Prop} (hgd : o.guard = none) {s x : Operand}
    (ho : o.op = .call { callee := .builtin .append, args := #[s, x], argTypes := #[t, t] })
    {w : World} {ad : Addr} {cap : Nat} {c : List Value} (hL : Lst R B base e k v w l css)
    (hs : a.eval s = v) (hx : a.eval x = .slice (some ad) 1 cap) (hc : ∀ j u, c[j]? = some u → w.cell? (ad.add j) = some u)
    (hl : c.length = k) (h1 : ∀ u ∈ c, u.oneCell' = true) (hn : (l.length + 1) * bytes ≤ 140737488355328) (hn' : l.length + 1 ≤ 9223372036854775807) (hbase : base ≤ w.heap.size)
    {y : α} (hy : On (fun b => B ≤ b ∧ b < w.heap.size ∧ v.ownBlock ≠ some b) (fun w => R w c y) w)
    (h : ∀ v' w', Lst R B base e k v' w' (l ++ [y]) (css ++ [c]) → Below base w w' → w.grownBy w' v.ownBlock → (v'.ownBlock = v.ownBlock ∨ ∃ g, v'.ownBlock = some g ∧ w.heap.size ≤ g) → K (a.put o.dst v') w') :
    if Region.wanted o (yielded ops a.tmps) = true then Oper.wp P o a w K Q else E0 := by
  obtain ⟨i, hi, hz0, hz1, hz2⟩ := info_parts E.hi
  refine step_append_lies w hgd s x t ho base e i z k bytes E.ht hi hz0 hz1 hz2 E.hzs E.hsz v l.length css.flatten hs hL.own ad 1 cap c hx (by rw [hl, Nat.one_mul]) hc h1 (by omega) (by unfold maxLen; omega) hn hbase _ rfl fun g cp w' h2 h3 h4 h5 => ?_
  have hv : (Value.slice (some ⟨g, 0, none⟩) (l.length + 1) cp).ownBlock = v.ownBlock ∨ ∃ g', (Value.slice (some ⟨g, 0, none⟩) (l.length + 1) cp).ownBlock = some g' ∧ w.heap.size ≤ g' := by
    rcases h4 with h4 | h4
    · exact .inl (by rw [h4]; rfl)
    · exact .inr ⟨g, rfl, by omega⟩
  exact h _ w' (hL.push hl hy h2 h3 hv) ((Below.refl base w).grown h3 hbase fun g' hg' => (hL.lt g' hg').1) h3 hv
end

end Go.Proofs.Kit
