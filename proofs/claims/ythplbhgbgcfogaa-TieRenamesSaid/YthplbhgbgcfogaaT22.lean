/- The walk of TieDecides. -/
import Derived.Test.YthplbhgbgcfogaaT20
namespace Go.Proofs.Nums

theorem vote_whole {o : List Int} {c : Int} (h1 : c < o.length) (h0 : 0 ≤ c) : vote (wholesS o) c = wholeQ (o.getD c.toNat 0) := by
  have hl : c.toNat < o.length := by omega
  unfold vote wholesS
  rw [List.getD_eq_getElem?_getD, List.getElem?_map, List.getD_eq_getElem?_getD, List.getElem?_eq_getElem hl]
  rfl
/-- Votes of which one is apart. -/
def OneOff (o : List Int) (n x : Nat) (a b : Int) : Prop := o.length = n ∧ ∀ j, j < n → o.getD j 0 = if j = x then a else b
theorem decide_left {o : List Int} {n x : Nat} {a b : Int} {least : Bool} {tied : List Int} {vs : List (List Q)} (h : OneOff o n x a b) (hb : BalP n tied) (hx : (x : Int) ∈ tied)
    (hl : (if least then lessQ (wholeQ a) (wholeQ b) else lessQ (wholeQ b) (wholeQ a)) = true) : leftS least (wholesS o :: vs) tied = [(x : Int)] := by
  have hv : ∀ c ∈ tied, vote (wholesS o) c = wholeQ (if c = x then a else b) := fun c hc => by
    have g := hb.1 c hc
    rw [vote_whole (by rw [h.1]; exact g.2) g.1, h.2 c.toNat (by omega)]
    by_cases e : c = x
    · rw [if_pos e, if_pos (by omega)]
    · rw [if_neg e, if_neg (by omega)]
  refine left_one hx hb.2 (fun c => by unfold ltV; split <;> exact lessQ_irr _) (fun y hy hne => ?_) (fun y hy hne => ?_)
  · unfold ltV
    rw [hv _ hx, hv y hy, if_pos rfl, if_neg hne]
    exact hl
  · unfold ltV
    rw [hv _ hx, hv y hy, if_pos rfl, if_neg hne]
    cases least
    · exact lessQ_asy hl
    · exact lessQ_asy hl
theorem decides {rule : Int} {M : List (List Q)} {tied lots : List Int} {least : Bool} {x : Int} (hv : validS rule tied lots = true) (h : leftS least (roundsS rule M) tied = [x]) : breakS rule M tied lots least = (x, false) := by
  rw [break_valid hv, h]
  rfl
theorem oneOff_set {o : List Int} {n x : Nat} {a b c : Int} (h : OneOff o n x a b) (hx : x < n) : OneOff (o.set x c) n x c b := by
  refine ⟨by rw [List.length_set]; exact h.1, fun j hj => ?_⟩
  rw [List.getD_eq_getElem?_getD, List.getElem?_set]
  by_cases e : j = x
  · subst e
    rw [if_pos rfl, if_pos rfl, if_pos (by rw [h.1]; exact hx)]; rfl
  · rw [if_neg (fun g => e g.symm), if_neg e]
    have := h.2 j hj
    rw [if_neg e, List.getD_eq_getElem?_getD] at this
    exact this

end Go.Proofs.Nums
namespace Go.Proofs.Ythplbhgbgcfogaa
open Go.RowKit Go.Proofs.Kit Go.Proofs.Nums

/-- An array of integers of the call's own. -/
def OwnInt (w : World) (base g n : Nat) (o : List Int) : Prop := o.length = n ∧ w.ownsRow base 3 1 (.slice (some ⟨g, 0, none⟩) n n) n (o.map (Value.int .i64))
theorem OwnInt.read {w : World} {base g n : Nat} {o : List Int} (h : OwnInt w base g n o) : IntsAt w (.slice (some ⟨g, 0, none⟩) n n) o := RowAt.owned h.2
theorem OwnInt.cell {w : World} {base g n : Nat} {o : List Int} (h : OwnInt w base g n o) {j : Nat} (hj : j < n) : w.cell? ⟨g, j, none⟩ = some (.int .i64 (o.getD j 0)) := by
  have hl : j < o.length := by rw [h.1]; exact hj
  rw [h.2.cellAt j (by omega), List.getElem?_map, List.getD_eq_getElem?_getD, List.getElem?_eq_getElem hl]; rfl
theorem OwnInt.free {w : World} {base g n : Nat} {o : List Int} (h : OwnInt w base g n o) (j : Nat) : w.frozen? ⟨g, j, none⟩ = false := h.2.frozenAt j
theorem OwnInt.put {w : World} {base g n : Nat} {o : List Int} (h : OwnInt w base g n o) (j : Nat) (x : Int) :
    OwnInt (w.setCell ⟨g, j, none⟩ (.int .i64 x)) base g n (o.set j x) ∧ Below base w (w.setCell ⟨g, j, none⟩ (.int .i64 x)) := by
  have hs := h.2.stored j (.int .i64 x)
  refine ⟨⟨by rw [List.length_set]; exact h.1, ?_⟩, ?_⟩
  · rw [List.map_set]; exact hs.1
  · exact (Below.refl base w).setCell (h.2.lt g rfl).1 _
theorem OwnInt.keep {w w' : World} {base g n : Nat} {o : List Int} (h : OwnInt w base g n o) (hb : Below w.heap.size w w') : OwnInt w' base g n o := ⟨h.1, ownsRow_below h.2 hb⟩
theorem OwnInt.made {w : World} {base g n : Nat} (h : w.ownsRow base 3 1 (.slice (some ⟨g, 0, none⟩) n n) n (madeCells (Value.int .i64 0).cells (n * 1)).toList) : OwnInt w base g n (List.replicate n 0) := by
  refine ⟨List.length_replicate, ?_⟩
  rw [show (Value.int IntKind.i64 0).cells = #[.int .i64 0] from rfl, toList_madeCells_one, Nat.mul_one] at h
  rw [List.map_replicate]; exact h

theorem slice_of_own {α : Type} {R : World → List Value → α → Prop} {base k : Nat} {e : TypeId} {w : World} {v : Value} {l : List α} {css : List (List Value)} (h1 : w.ownsRow base e k v l.length css.flatten) (h2 : css.length = l.length) (h3 : ∀ c ∈ css, c.length = k)
    (hel : ∀ (i : Nat) (c : List Value) (x : α), css[i]? = some c → l[i]? = some x → R w c x) : SliceOf R k w v l := by
  rcases h1.2 with ⟨rfl, hn⟩ | ⟨g, cap, cur, rfl, hg, hgg, hc, hm, hs, ht⟩
  · have : l = [] := List.eq_nil_of_length_eq_zero hn
    subst this
    exact SliceOf.nil w
  · refine ⟨css, _, cap, rfl, hc, by unfold maxLen at hm; omega, fun hh => by simp at hh, h2, h3, fun q hq i c j u hi hj => ?_, hel⟩
    obtain rfl := Option.some.inj hq
    have hf := flat_at h3 hi hj
    rw [Addr.add_lit, Nat.zero_add, cell_of_row w g _ cur e (0, 0) hgg]
    rw [← ht, List.getElem?_take] at hf
    split at hf
    · simpa using hf
    · simp at hf

/-- append([]T{x}, l...), T a row: l was made by the call, x lies elsewhere. -/
theorem append_rows {ops : Array Oper} {rest : List Oper} {o : Oper} {a : Act} {Q0 : Exit → Act → World → Prop} {w : World} (hgd : Region.wanted o (yielded ops a.tmps) = true) {s x : Operand}
    (ho : o.op = .call { callee := .builtin .append, args := #[s, x], argTypes := #[28, 28] })
    {base g : Nat} {v1 : Value} (hown : w.ownsRow base 34 1 (.slice (some ⟨g, 0, none⟩) 1 1) 1 [v1]) (hs : a.eval s = .slice (some ⟨g, 0, none⟩) 1 1)
    {B : Nat} {v2 : Value} {M : List (List Q)} {css : List (List Value)} (hL : LLst B v2 w M css) (hx : a.eval x = v2) (hgB : g < B) {q : List Q} (hq : On (fun b => b < g) (fun w => RatsAt w v1 q) w) (hgw : g ≤ w.heap.size) (hbase : base ≤ w.heap.size) (hM : M.length ≤ 6)
    (h : ∀ v' w', RoundsAt w' v' (q :: M) → Below base w w' → wpList Try.prog ops Q0 rest (a.put o.dst v') w') : wpList Try.prog ops Q0 (o :: rest) a w := by
  have hmk : ∀ v' w', w'.ownsRow base 34 1 v' (1 + M.length) ([v1] ++ css.flatten) → (∀ b, b < w.heap.size → some b ≠ some g → w'.heap[b]? = w.heap[b]?) → RoundsAt w' v' (q :: M) := by
    intro v' w' ho hb
    refine slice_of_own (base := base) (e := 34) (css := [v1] :: css) ?_ (by simp [hL.len]) ?_ ?_
    · rw [List.length_cons, Nat.add_comm]
      exact ho
    · intro c hc
      rcases List.mem_cons.1 hc with rfl | hc
      · rfl
      · exact hL.siz c hc
    · intro i c y hi hy
      cases i with
      | zero =>
        simp only [List.getElem?_cons_zero, Option.some.injEq] at hi hy
        subst hi
        subst hy
        exact ⟨_, rfl, hq w' fun b hbg => hb b (by omega) (fun e => by simp at e; omega)⟩
      | succ i =>
        simp only [List.getElem?_cons_succ] at hi hy
        exact hL.elt i c y hi hy w' fun b hbb => hb b hbb.2.1 (fun e => by simp at e; omega)
  rcases hL.own.2 with ⟨rfl, hn⟩ | ⟨g2, cap, cur, rfl, hg, hgg, hc, hm, hs2, ht⟩
  · refine append_nil erRR hgd ho hown hs hx (h _ w (hmk _ w ?_ (fun _ _ _ => rfl)) (Below.refl _ _))
    have : M = [] := List.eq_nil_of_length_eq_zero hn
    subst this
    have : css = [] := List.eq_nil_of_length_eq_zero hL.len
    subst this
    exact hown
  · refine append_row erRR hgd ho hown hs hx (by rw [flat_len hL.siz, hL.len]) (fun j u hj => ?_) (fun u hu => ?_) (by omega) (by omega) hbase (fun v' w' h1 h2 h3 => h v' w' (hmk v' w' h1 (fun b hb hne => h2.block b hb (by simpa [Value.ownBlock] using hne))) h3)
    · rw [Addr.add_lit, Nat.zero_add, cell_of_row w g2 _ cur 34 (0, 0) hgg]
      rw [← ht, List.getElem?_take] at hj
      split at hj
      · simpa using hj
      · simp at hj
    · obtain ⟨c, hc1, hc2⟩ := List.mem_flatten.1 hu
      obtain ⟨i, hi, he⟩ := List.mem_iff_getElem.1 hc1
      have hiM : i < M.length := by rw [← hL.len]; exact hi
      obtain ⟨u', e, hr⟩ := (hL.elt i c M[i] (by rw [List.getElem?_eq_getElem hi, he]) (List.getElem?_eq_getElem hiM)).now
      rw [e, List.mem_singleton] at hc2
      subst hc2
      obtain ⟨p, n, c, rfl⟩ := hr.sl
      rfl

end Go.Proofs.Ythplbhgbgcfogaa
