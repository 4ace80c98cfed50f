/- Contracts and plain facts, part 9: T20, T22, T24, Va, I0, I1, I2. No condition beyond those that each theorem states. -/
import Derived.Test.YtbnhgmikegdppaaQH
/- The walks of TieReverses and TieLots. -/
namespace Go.Proofs.Ytbnhgmikegdppaa
open Go.RowKit Go.Proofs.Kit Go.Proofs.Nums

theorem RoundsAt.shs {w : World} {v : Value} {M : List (List Q)} (h : RoundsAt w v M) : ∀ r ∈ M, Shs r := by
  intro r hr
  obtain ⟨p, c, rfl⟩ := h.shp
  obtain ⟨i, hi, he⟩ := List.mem_iff_getElem.1 hr
  obtain ⟨_, _, u, _, _, _, _, g⟩ := h.cellAt hi (v := r) (by rw [List.getD_eq_getElem?_getD, List.getElem?_eq_getElem hi, he]; rfl)
  exact g.shs
/-- A row of a list of rows that was made: its cell, and the blocks that it is read off. -/
theorem LLst.cellOn {B : Nat} {v : Value} {w : World} {M : List (List Q)} {css : List (List Value)} (h : LLst B v w M css) {k : Nat} (hk : k < M.length) {q : List Q} (hq : M.getD k [] = q) :
    ∃ g cap u, v = .slice (some ⟨g, 0, none⟩) M.length cap ∧ M.length ≤ cap ∧ cap ≤ 9223372036854775807 ∧ w.cell? ⟨g, k, none⟩ = some u ∧ On (fun b => b < w.heap.size) (fun w => rowR w [u] q) w := by
  have hkc : k < css.length := by rw [h.len]; exact hk
  have hc := List.getElem?_eq_getElem hkc
  have hlen := h.siz _ (List.getElem_mem hkc)
  obtain ⟨u, hu⟩ := List.length_eq_one_iff.1 hlen
  rw [hu] at hc
  have hx : M[k]? = some q := by
    rw [← hq, List.getD_eq_getElem?_getD, List.getElem?_eq_getElem hk]; rfl
  have hel := h.elt k [u] q hc hx
  rcases h.own.2 with ⟨_, hn⟩ | ⟨g, cap, cur, rfl, hg, hgg, hcc, hm, hs, ht⟩
  · omega
  · refine ⟨g, cap, u, rfl, hcc, by unfold maxLen at hm; omega, ?_, On.mono hel fun b hb => hb.2.1⟩
    have hf := flat_at (j := 0) h.siz hc rfl
    rw [cell_of_row w g k cur 48 (0, 0) hgg]
    rw [← ht, List.getElem?_take] at hf
    split at hf
    · simpa using hf
    · simp at hf

/-- Both ways round break a tie alike. -/
theorem rev_pack {vt vl : Value} {who : List Int} {code : Int} {n : Nat} {w : World} (ht : IntsAt w vt (tiedS n who)) (hl : IntsAt w vl (permS n code)) (h1 : 1 ≤ n) (h7 : n ≤ 7) (least : Bool) {M : List (List Q)} (hs : ∀ r ∈ M, Shs r) :
    ∃ x y, (∀ w' vM, Below w.heap.size w w' → RoundsAt w' vM M → Calls Try.prog 80 #[.int .i64 1, vM, vt, vl, .bool least] w' fun e w'' => e = .returned (.tuple #[.int .i64 x, .bool y]) ∧ Below w'.heap.size w' w'') ∧
      (∀ w' vM, Below w.heap.size w w' → RoundsAt w' vM M.reverse → Calls Try.prog 80 #[.int .i64 2, vM, vt, vl, .bool least] w' fun e w'' => e = .returned (.tuple #[.int .i64 x, .bool y]) ∧ Below w'.heap.size w' w'') ∧
      (∀ w', Below w.heap.size w w' → Calls Try.prog 21 #[vt, .int .i64 x] w' fun e w'' => e = .returned (.bool true) ∧ w' = w'') := by
  have v1 := made_valid h1 h7 who code (rule := 1) (by omega) (by omega)
  have v2 := made_valid h1 h7 who code (rule := 2) (by omega) (by omega)
  refine ⟨(breakS 1 M (tiedS n who) (permS n code) least).1, (breakS 1 M (tiedS n who) (permS n code) least).2, fun _ _ hb hM => tbreak_c hM (ht.keep hb) (hl.keep hb) 1 least, fun _ _ hb hM => ?_, fun _ hb => ?_⟩
  · rw [break_rev v1 v2]
    exact tbreak_c hM (ht.keep hb) (hl.keep hb) 2 least
  · have := has_c (ht.keep hb) (breakS 1 M (tiedS n who) (permS n code) least).1
    rw [hasB_true.2 (break_mem v1 hs)] at this
    exact this

end Go.Proofs.Ytbnhgmikegdppaa

/- The walk of TieDecides. -/
namespace Go.Proofs.Nums

theorem vote_whole {o : List Int} {c : Int} (h1 : c < o.length) (h0 : 0 ≤ c) : vote (wholesS o) c = wholeQ (o.getD c.toNat 0) := by
  have hl : c.toNat < o.length := by omega
  unfold vote wholesS
  rw [List.getD_eq_getElem?_getD, List.getElem?_map, List.getD_eq_getElem?_getD, List.getElem?_eq_getElem hl]
  rfl
/-- Votes of which one is apart. -/
def OneOff (o : List Int) (n x : Nat) (a b : Int) : Prop := o.length = n ∧ ∀ j, j < n → o.getD j 0 = if j = x then a else b
theorem decide_left {o : List Int} {n x : Nat} {a b : Int} {least : Bool} {tied : List Int} {vs : List (List Q)} (h : OneOff o n x a b) (hb : BalP n tied) (hx : (x : Int) ∈ tied)
    (hl : (if least then lessQ (wholeQ a) (wholeQ b) else lessQ (wholeQ b) (wholeQ a)) = true) : leftS least (wholesS o :: vs) tied = [(x : Int)] := by
  have hv : ∀ c ∈ tied, vote (wholesS o) c = wholeQ (if c = x then a else b) := fun c hc => by
    have g := hb.1 c hc
    rw [vote_whole (by rw [h.1]; exact g.2) g.1, h.2 c.toNat (by omega)]
    by_cases e : c = x
    · rw [if_pos e, if_pos (by omega)]
    · rw [if_neg e, if_neg (by omega)]
  refine left_one hx hb.2 (fun c => by unfold ltV; split <;> exact lessQ_irr _) (fun y hy hne => ?_) (fun y hy hne => ?_)
  · unfold ltV
    rw [hv _ hx, hv y hy, if_pos rfl, if_neg hne]
    exact hl
  · unfold ltV
    rw [hv _ hx, hv y hy, if_pos rfl, if_neg hne]
    cases least
    · exact lessQ_asy hl
    · exact lessQ_asy hl
theorem decides {rule : Int} {M : List (List Q)} {tied lots : List Int} {least : Bool} {x : Int} (hv : validS rule tied lots = true) (h : leftS least (roundsS rule M) tied = [x]) : breakS rule M tied lots least = (x, false) := by
  rw [break_valid hv, h]
  rfl
theorem oneOff_set {o : List Int} {n x : Nat} {a b c : Int} (h : OneOff o n x a b) (hx : x < n) : OneOff (o.set x c) n x c b := by
  refine ⟨by rw [List.length_set]; exact h.1, fun j hj => ?_⟩
  rw [List.getD_eq_getElem?_getD, List.getElem?_set]
  by_cases e : j = x
  · subst e
    rw [if_pos rfl, if_pos rfl, if_pos (by rw [h.1]; exact hx)]; rfl
  · rw [if_neg (fun g => e g.symm), if_neg e]
    have := h.2 j hj
    rw [if_neg e, List.getD_eq_getElem?_getD] at this
    exact this

end Go.Proofs.Nums
namespace Go.Proofs.Ytbnhgmikegdppaa
open Go.RowKit Go.Proofs.Kit Go.Proofs.Nums

/-- An array of integers of the call's own. -/
def OwnInt (w : World) (base g n : Nat) (o : List Int) : Prop := o.length = n ∧ w.ownsRow base 3 1 (.slice (some ⟨g, 0, none⟩) n n) n (o.map (Value.int .i64))
theorem OwnInt.read {w : World} {base g n : Nat} {o : List Int} (h : OwnInt w base g n o) : IntsAt w (.slice (some ⟨g, 0, none⟩) n n) o := RowAt.owned h.2
theorem OwnInt.cell {w : World} {base g n : Nat} {o : List Int} (h : OwnInt w base g n o) {j : Nat} (hj : j < n) : w.cell? ⟨g, j, none⟩ = some (.int .i64 (o.getD j 0)) := by
  have hl : j < o.length := by rw [h.1]; exact hj
  rw [h.2.cellAt j (by omega), List.getElem?_map, List.getD_eq_getElem?_getD, List.getElem?_eq_getElem hl]; rfl
theorem OwnInt.free {w : World} {base g n : Nat} {o : List Int} (h : OwnInt w base g n o) (j : Nat) : w.frozen? ⟨g, j, none⟩ = false := h.2.frozenAt j
theorem OwnInt.put {w : World} {base g n : Nat} {o : List Int} (h : OwnInt w base g n o) (j : Nat) (x : Int) :
    OwnInt (w.setCell ⟨g, j, none⟩ (.int .i64 x)) base g n (o.set j x) ∧ Below base w (w.setCell ⟨g, j, none⟩ (.int .i64 x)) := by
  have hs := h.2.stored j (.int .i64 x)
  refine ⟨⟨by rw [List.length_set]; exact h.1, ?_⟩, ?_⟩
  · rw [List.map_set]; exact hs.1
  · exact (Below.refl base w).setCell (h.2.lt g rfl).1 _
theorem OwnInt.keep {w w' : World} {base g n : Nat} {o : List Int} (h : OwnInt w base g n o) (hb : Below w.heap.size w w') : OwnInt w' base g n o := ⟨h.1, ownsRow_below h.2 hb⟩
theorem OwnInt.made {w : World} {base g n : Nat} (h : w.ownsRow base 3 1 (.slice (some ⟨g, 0, none⟩) n n) n (madeCells (Value.int .i64 0).cells (n * 1)).toList) : OwnInt w base g n (List.replicate n 0) := by
  refine ⟨List.length_replicate, ?_⟩
  rw [show (Value.int IntKind.i64 0).cells = #[.int .i64 0] from rfl, toList_madeCells_one, Nat.mul_one] at h
  rw [List.map_replicate]; exact h

theorem slice_of_own {α : Type} {R : World → List Value → α → Prop} {base k : Nat} {e : TypeId} {w : World} {v : Value} {l : List α} {css : List (List Value)} (h1 : w.ownsRow base e k v l.length css.flatten) (h2 : css.length = l.length) (h3 : ∀ c ∈ css, c.length = k)
    (hel : ∀ (i : Nat) (c : List Value) (x : α), css[i]? = some c → l[i]? = some x → R w c x) : SliceOf R k w v l := by
  rcases h1.2 with ⟨rfl, hn⟩ | ⟨g, cap, cur, rfl, hg, hgg, hc, hm, hs, ht⟩
  · have : l = [] := List.eq_nil_of_length_eq_zero hn
    subst this
    exact SliceOf.nil w
  · refine ⟨css, _, cap, rfl, hc, by unfold maxLen at hm; omega, fun hh => by simp at hh, h2, h3, fun q hq i c j u hi hj => ?_, hel⟩
    obtain rfl := Option.some.inj hq
    have hf := flat_at h3 hi hj
    rw [Addr.add_lit, Nat.zero_add, cell_of_row w g _ cur e (0, 0) hgg]
    rw [← ht, List.getElem?_take] at hf
    split at hf
    · simpa using hf
    · simp at hf

/-- append([]T{x}, l...), T a row: l was made by the call, x lies elsewhere. -/
theorem append_rows {ops : Array Oper} {rest : List Oper} {o : Oper} {a : Act} {Q0 : Exit → Act → World → Prop} {w : World} (hgd : Region.wanted o (yielded ops a.tmps) = true) {s x : Operand}
    (ho : o.op = .call { callee := .builtin .append, args := #[s, x], argTypes := #[92, 92] })
    {base g : Nat} {v1 : Value} (hown : w.ownsRow base 48 1 (.slice (some ⟨g, 0, none⟩) 1 1) 1 [v1]) (hs : a.eval s = .slice (some ⟨g, 0, none⟩) 1 1)
    {B : Nat} {v2 : Value} {M : List (List Q)} {css : List (List Value)} (hL : LLst B v2 w M css) (hx : a.eval x = v2) (hgB : g < B) {q : List Q} (hq : On (fun b => b < g) (fun w => RatsAt w v1 q) w) (hgw : g ≤ w.heap.size) (hbase : base ≤ w.heap.size) (hM : M.length ≤ 6)
    (h : ∀ v' w', RoundsAt w' v' (q :: M) → Below base w w' → wpList Try.prog ops Q0 rest (a.put o.dst v') w') : wpList Try.prog ops Q0 (o :: rest) a w := by
  have hmk : ∀ v' w', w'.ownsRow base 48 1 v' (1 + M.length) ([v1] ++ css.flatten) → (∀ b, b < w.heap.size → some b ≠ some g → w'.heap[b]? = w.heap[b]?) → RoundsAt w' v' (q :: M) := by
    intro v' w' ho hb
    refine slice_of_own (base := base) (e := 48) (css := [v1] :: css) ?_ (by simp [hL.len]) ?_ ?_
    · rw [List.length_cons, Nat.add_comm]
      exact ho
    · intro c hc
      rcases List.mem_cons.1 hc with rfl | hc
      · rfl
      · exact hL.siz c hc
    · intro i c y hi hy
      cases i with
      | zero =>
        simp only [List.getElem?_cons_zero, Option.some.injEq] at hi hy
        subst hi
        subst hy
        exact ⟨_, rfl, hq w' fun b hbg => hb b (by omega) (fun e => by simp at e; omega)⟩
      | succ i =>
        simp only [List.getElem?_cons_succ] at hi hy
        exact hL.elt i c y hi hy w' fun b hbb => hb b hbb.2.1 (fun e => by simp at e; omega)
  rcases hL.own.2 with ⟨rfl, hn⟩ | ⟨g2, cap, cur, rfl, hg, hgg, hc, hm, hs2, ht⟩
  · refine append_nil erRR hgd ho hown hs hx (h _ w (hmk _ w ?_ (fun _ _ _ => rfl)) (Below.refl _ _))
    have : M = [] := List.eq_nil_of_length_eq_zero hn
    subst this
    have : css = [] := List.eq_nil_of_length_eq_zero hL.len
    subst this
    exact hown
  · refine append_row erRR hgd ho hown hs hx (by rw [flat_len hL.siz, hL.len]) (fun j u hj => ?_) (fun u hu => ?_) (by omega) (by omega) hbase (fun v' w' h1 h2 h3 => h v' w' (hmk v' w' h1 (fun b hb hne => h2.block b hb (by simpa [Value.ownBlock] using hne))) h3)
    · rw [Addr.add_lit, Nat.zero_add, cell_of_row w g2 _ cur 48 (0, 0) hgg]
      rw [← ht, List.getElem?_take] at hj
      split at hj
      · simpa using hj
      · simp at hj
    · obtain ⟨c, hc1, hc2⟩ := List.mem_flatten.1 hu
      obtain ⟨i, hi, he⟩ := List.mem_iff_getElem.1 hc1
      have hiM : i < M.length := by rw [← hL.len]; exact hi
      obtain ⟨u', e, hr⟩ := (hL.elt i c M[i] (by rw [List.getElem?_eq_getElem hi, he]) (List.getElem?_eq_getElem hiM)).now
      rw [e, List.mem_singleton] at hc2
      subst hc2
      obtain ⟨p, n, c, rfl⟩ := hr.sl
      rfl

end Go.Proofs.Ytbnhgmikegdppaa

/- The plain law of ties: candidates renamed. -/
namespace Go.Proofs.Nums

/-- s carries 0 .. n-1 into itself, each to another. -/
structure Ren (s : Int → Int) (n : Nat) : Prop where
  rng : ∀ c : Int, 0 ≤ c → c < n → 0 ≤ s c ∧ s c < n
  inj : ∀ a b : Int, 0 ≤ a → a < n → 0 ≤ b → b < n → s a = s b → a = b
def RowRen (s : Int → Int) (n : Nat) (v v' : List Q) : Prop := ∀ c : Int, 0 ≤ c → c < n → vote v' (s c) = vote v c
def RowsRen (P : List Q → List Q → Prop) : List (List Q) → List (List Q) → Prop
  | [], [] => True
  | v :: vs, v' :: vs' => P v v' ∧ RowsRen P vs vs'
  | _, _ => False
theorem RowsRen.snoc {P : List Q → List Q → Prop} {a b : List (List Q)} {v v' : List Q} (h : RowsRen P a b) (hv : P v v') : RowsRen P (a ++ [v]) (b ++ [v']) := by
  induction a generalizing b with
  | nil =>
    cases b with
    | nil => exact ⟨hv, trivial⟩
    | cons x b => exact absurd h (by simp [RowsRen])
  | cons x a ih =>
    cases b with
    | nil => exact absurd h (by simp [RowsRen])
    | cons y b => exact ⟨h.1, ih h.2⟩
theorem RowsRen.rev {P : List Q → List Q → Prop} {a b : List (List Q)} (h : RowsRen P a b) : RowsRen P a.reverse b.reverse := by
  induction a generalizing b with
  | nil =>
    cases b with
    | nil => trivial
    | cons x b => exact absurd h (by simp [RowsRen])
  | cons x a ih =>
    cases b with
    | nil => exact absurd h (by simp [RowsRen])
    | cons y b =>
      rw [List.reverse_cons, List.reverse_cons]
      exact (ih h.2).snoc h.1
theorem RowsRen.rounds {P : List Q → List Q → Prop} {a b : List (List Q)} (h : RowsRen P a b) (rule : Int) : RowsRen P (roundsS rule a) (roundsS rule b) := by
  unfold roundsS
  split
  · trivial
  · split
    · exact h.rev
    · exact h
theorem extA_ren {lt lt' : Int → Int → Bool} {s : Int → Int} {l l' : List Int} (hp : l'.Perm (l.map s)) (h : ∀ a ∈ l, ∀ b ∈ l, lt' (s a) (s b) = lt a b) : (extA lt' l').Perm ((extA lt l).map s) := by
  unfold extA
  refine (hp.filter _).trans ?_
  rw [List.filter_map]
  have e : l.filter ((fun c => l'.all fun k => !lt' k c) ∘ s) = l.filter (fun c => l.all fun k => !lt k c) := by
    refine List.filter_congr fun c hc => ?_
    simp only [Function.comp]
    rw [Bool.eq_iff_iff, List.all_eq_true, List.all_eq_true]
    constructor
    · intro g k hk
      have := g (s k) (hp.mem_iff.2 (List.mem_map_of_mem hk))
      rw [h k hk c hc] at this
      exact this
    · intro g k hk
      obtain ⟨k', hk', rfl⟩ := List.mem_map.1 (hp.mem_iff.1 hk)
      rw [h k' hk' c hc]
      exact g k' hk'
  rw [e]
theorem leftS_ren {s : Int → Int} {n : Nat} {least : Bool} {vs vs' : List (List Q)} (hr : RowsRen (RowRen s n) vs vs') {l l' : List Int} (hp : l'.Perm (l.map s)) (hl : ∀ c ∈ l, 0 ≤ c ∧ c < n) : (leftS least vs' l').Perm ((leftS least vs l).map s) := by
  induction vs generalizing vs' l l' with
  | nil =>
    cases vs' with
    | nil => exact hp
    | cons y b => exact absurd hr (by simp [RowsRen])
  | cons v vs ih =>
    cases vs' with
    | nil => exact absurd hr (by simp [RowsRen])
    | cons v' vs' =>
      have hlen : l'.length = l.length := by rw [hp.length_eq, List.length_map]
      unfold leftS
      rw [hlen]
      split
      · refine ih hr.2 (extA_ren hp fun a ha b hb => ?_) (fun c hc => hl c (extA_sub.subset hc))
        have ga := hl a ha
        have gb := hl b hb
        unfold ltV
        rw [hr.1 a ga.1 ga.2, hr.1 b gb.1 gb.2]
      · exact ih hr.2 hp hl
theorem place_ren {s : Int → Int} {lots : List Int} {c : Int} (h : ∀ y ∈ lots, s y = s c → y = c) : placeN (lots.map s) (s c) = placeN lots c := by
  induction lots with
  | nil => rfl
  | cons y l ih =>
    rw [List.map_cons]
    unfold placeN
    by_cases e : y = c
    · subst e
      rw [if_pos rfl, if_pos rfl]
    · rw [if_neg e, if_neg (fun g => e (h y (by simp) g)), ih (fun z hz => h z (List.mem_cons_of_mem _ hz))]
theorem pick_ren {s : Int → Int} {n : Nat} (hs : Ren s n) {lots l l' : List Int} {least : Bool} (hlots : ∀ c ∈ lots, 0 ≤ c ∧ c < n) (hp : l'.Perm (l.map s)) (hne : l ≠ []) (hsub : ∀ x ∈ l, x ∈ lots) : pickS (lots.map s) least l' = s (pickS lots least l) := by
  have hne' : l' ≠ [] := fun e => by
    rw [e] at hp
    have := hp.length_eq
    simp at this
    exact hne (List.eq_nil_of_length_eq_zero this.symm)
  have hpl : ∀ c, c ∈ lots → placeN (lots.map s) (s c) = placeN lots c := fun c hc => place_ren fun y hy e => by
    have g1 := hlots y hy
    have g2 := hlots c hc
    exact hs.inj _ _ g1.1 g1.2 g2.1 g2.2 e
  have hm' := pick_mem (lots := lots.map s) (least := least) hne'
  have hf' := pick_far (lots := lots.map s) (least := least) hne'
  have hm := pick_mem (lots := lots) (least := least) hne
  have hf := pick_far (lots := lots) (least := least) hne
  obtain ⟨z, hz, ez⟩ := List.mem_map.1 (hp.mem_iff.1 hm')
  rw [← ez] at hf' ⊢
  have hzl := hsub z hz
  have hpl' := hsub _ hm
  congr 1
  refine place_inj hzl hpl' ?_
  have f1 := hf z hz
  have f2 := hf' (s (pickS lots least l)) (hp.mem_iff.2 (List.mem_map_of_mem hm))
  rw [hpl _ hzl, hpl _ hpl'] at f2
  cases least
  · simp at f1 f2; omega
  · simp at f1 f2; omega
/-- The choice is renamed with the candidates. -/
theorem break_ren {s : Int → Int} {n : Nat} (hs : Ren s n) {rule : Int} {M M' : List (List Q)} {t t' lots : List Int} {least : Bool} (hv : validS rule t lots = true) (hv' : validS rule t' (lots.map s) = true) (hn : lots.length = n) (hr : RowsRen (RowRen s n) M M') (hsh : ∀ r ∈ M, Shs r) (hp : t'.Perm (t.map s)) :
    breakS rule M' t' (lots.map s) least = (s (breakS rule M t lots least).1, (breakS rule M t lots least).2) := by
  obtain ⟨_, hbl, hne, hbt, _⟩ := (valid_eq _ _ _).1 hv
  rw [hn] at hbl hbt
  have hr2 : ∀ v ∈ roundsS rule M, Shs v := by
    intro v h
    unfold roundsS at h
    split at h
    · simp at h
    · split at h
      · exact hsh v (List.mem_reverse.1 h)
      · exact hsh v h
  have key := leftS_ren (least := least) (hr.rounds rule) hp hbt.1
  have hne2 := leftS_ne least hr2 hne
  have hsub := (leftS_sub least (roundsS rule M) t).subset
  rw [break_valid hv, break_valid hv']
  obtain ⟨l, hl⟩ : ∃ l, leftS least (roundsS rule M) t = l := ⟨_, rfl⟩
  obtain ⟨l', hl'⟩ : ∃ l, leftS least (roundsS rule M') t' = l := ⟨_, rfl⟩
  rw [hl] at key hne2 hsub ⊢
  rw [hl'] at key ⊢
  have hlen : l'.length = l.length := by rw [key.length_eq, List.length_map]
  rw [hlen]
  split
  · rename_i h1
    obtain ⟨a, rfl⟩ := List.length_eq_one_iff.1 h1
    obtain ⟨b, rfl⟩ := List.length_eq_one_iff.1 (hlen.trans h1)
    have := key.mem_iff (a := b)
    simp at this
    simp [this]
  · rw [pick_ren hs hbl.1 key hne2 (fun x hx => by
      have hx := hsub hx
      have h1 := hbt.1 x hx
      exact bal_mem (by rw [hn]; exact hbl) h1.1 (by rw [hn]; exact h1.2))]

/-- Renaming by a permutation. -/
def sig (n : Nat) (code : Int) (c : Int) : Int := (permS n code).getD c.toNat 0
theorem sig_ren (n : Nat) (code : Int) : Ren (sig n code) n := by
  have hl := perm_len n code
  refine ⟨fun (c : Int) h0 h1 => ?_, fun (a b : Int) a0 a1 b0 b1 e => ?_⟩
  · exact perm_mem.1 (mem_getD (k := c.toNat) (by omega) rfl)
  · unfold sig at e
    have ha : a.toNat < (permS n code).length := by omega
    have hb : b.toNat < (permS n code).length := by omega
    rw [List.getD_eq_getElem?_getD, List.getD_eq_getElem?_getD, List.getElem?_eq_getElem ha, List.getElem?_eq_getElem hb] at e
    have := (List.getElem_inj (perm_nodup n code)).1 (show (permS n code)[a.toNat] = (permS n code)[b.toNat] from e)
    omega
theorem rename_eq (l : List Int) (n : Nat) (code : Int) : renameS l (permS n code) = l.map (sig n code) := rfl
theorem ren_nodup {s : Int → Int} {n : Nat} (hs : Ren s n) {l : List Int} (h : BalP n l) : (l.map s).Nodup := by
  have hb := h.1
  have hn := h.2
  clear h
  induction l with
  | nil => exact List.nodup_nil
  | cons a t ih =>
    rw [List.nodup_cons] at hn
    rw [List.map_cons, List.nodup_cons]
    refine ⟨fun hm => ?_, ih (fun c hc => hb c (List.mem_cons_of_mem _ hc)) hn.2⟩
    obtain ⟨b, hbm, e⟩ := List.mem_map.1 hm
    have g1 := hb a (by simp)
    have g2 := hb b (List.mem_cons_of_mem _ hbm)
    exact hn.1 (by rw [← hs.inj b a g2.1 g2.2 g1.1 g1.2 e]; exact hbm)
theorem ren_tied {n : Nat} (h7 : n ≤ 7) {names : Int} {t : List Int} (h : BalP n t) : (risingS (renameS t (permS n names))).Perm (t.map (sig n names)) := by
  have hs := sig_ren n names
  refine (List.perm_ext_iff_of_nodup ((rising_sorted _).imp fun g => by omega) (ren_nodup hs h)).2 fun x => ?_
  rw [mem_rising, rename_eq]
  constructor
  · exact fun g => g.2.2
  · intro g
    obtain ⟨c, hc, rfl⟩ := List.mem_map.1 g
    have h1 := h.1 c hc
    have h2 := hs.rng c h1.1 h1.2
    exact ⟨h2.1, by omega, g⟩
theorem ren_valid {n : Nat} (h7 : n ≤ 7) {names rule : Int} {t lots : List Int} (hn : lots.length = n) (hv : validS rule t lots = true) : validS rule (risingS (renameS t (permS n names))) (renameS lots (permS n names)) = true := by
  obtain ⟨hr, hbl, hne, hbt, hsrt⟩ := (valid_eq _ _ _).1 hv
  rw [hn] at hbl hbt hr
  have hs := sig_ren n names
  have hp := ren_tied h7 (names := names) hbt
  rw [valid_eq, rename_eq lots, List.length_map, hn]
  refine ⟨hr, ⟨fun c hc => ?_, ren_nodup hs hbl⟩, fun e => ?_, ⟨fun c hc => ?_, (rising_sorted _).imp fun g => by omega⟩, rising_sorted _⟩
  · obtain ⟨y, hy, rfl⟩ := List.mem_map.1 hc
    have h1 := hbl.1 y hy
    exact hs.rng y h1.1 h1.2
  · rw [e] at hp
    have := hp.length_eq
    simp at this
    exact hne (List.eq_nil_of_length_eq_zero this.symm)
  · obtain ⟨y, hy, rfl⟩ := List.mem_map.1 (hp.mem_iff.1 hc)
    have h1 := hbt.1 y hy
    exact hs.rng y h1.1 h1.2

end Go.Proofs.Nums

/- Piles, plain: groups of equal ballots, their weights; what candidates can be reached. -/
namespace Go.Proofs.Nums

/-- A group of equal ballots. -/
structure Grp where
  p : List Int
  n : Int
/-- The weight of the ballots that f takes. -/
def sumF (f : List Int → Bool) (gs : List Grp) : Int := (gs.map fun g => if f g.p = true then g.n else 0).sum
theorem sumF_nil (f : List Int → Bool) : sumF f [] = 0 := rfl
theorem sumF_cons (f : List Int → Bool) (g : Grp) (gs : List Grp) : sumF f (g :: gs) = (if f g.p = true then g.n else 0) + sumF f gs := by simp [sumF]
theorem sumF_snoc (f : List Int → Bool) (g : Grp) (gs : List Grp) : sumF f (gs ++ [g]) = sumF f gs + (if f g.p = true then g.n else 0) := by simp [sumF]
theorem sumF_congr {f h : List Int → Bool} {gs : List Grp} (e : ∀ g ∈ gs, f g.p = h g.p) : sumF f gs = sumF h gs := by
  induction gs with
  | nil => rfl
  | cons g gs ih => rw [sumF_cons, sumF_cons, e g (by simp), ih fun g hg => e g (by simp [hg])]
/-- No group is empty. -/
def PosG (gs : List Grp) : Prop := ∀ g ∈ gs, 1 ≤ g.n
theorem PosG.tail {g : Grp} {gs : List Grp} (h : PosG (g :: gs)) : PosG gs := fun x hx => h x (by simp [hx])
theorem sumF_nn {f : List Int → Bool} {gs : List Grp} (h : PosG gs) : 0 ≤ sumF f gs := by
  induction gs with
  | nil => exact Int.le_refl _
  | cons g gs ih =>
    rw [sumF_cons]
    have := ih h.tail
    have := h g (by simp)
    split <;> omega
theorem sumF_le {f h : List Int → Bool} {gs : List Grp} (hp : PosG gs) (e : ∀ g ∈ gs, f g.p = true → h g.p = true) : sumF f gs ≤ sumF h gs := by
  induction gs with
  | nil => exact Int.le_refl _
  | cons g gs ih =>
    rw [sumF_cons, sumF_cons]
    have h1 := ih hp.tail fun g hg => e g (by simp [hg])
    have h2 := hp g (by simp)
    have h3 := e g (by simp)
    by_cases hf : f g.p = true
    · rw [if_pos hf, if_pos (h3 hf)]; omega
    · rw [if_neg hf]; split <;> omega
theorem sumF_two {f h e : List Int → Bool} {gs : List Grp} (hp : PosG gs) (h1 : ∀ g ∈ gs, f g.p = true → e g.p = true) (h2 : ∀ g ∈ gs, h g.p = true → e g.p = true) (h3 : ∀ g ∈ gs, f g.p = true → h g.p = true → False) : sumF f gs + sumF h gs ≤ sumF e gs := by
  induction gs with
  | nil => exact Int.le_refl _
  | cons g gs ih =>
    rw [sumF_cons, sumF_cons, sumF_cons]
    have i1 := ih hp.tail (fun g hg => h1 g (by simp [hg])) (fun g hg => h2 g (by simp [hg])) (fun g hg => h3 g (by simp [hg]))
    have i2 := hp g (by simp)
    have j1 := h1 g (by simp)
    have j2 := h2 g (by simp)
    have j3 := h3 g (by simp)
    by_cases hf : f g.p = true
    · by_cases hh : h g.p = true
      · exact (j3 hf hh).elim
      · rw [if_pos hf, if_neg hh, if_pos (j1 hf)]; omega
    · by_cases hh : h g.p = true
      · rw [if_neg hf, if_pos hh, if_pos (j2 hh)]; omega
      · rw [if_neg hf, if_neg hh]; split <;> omega

/-- Lexicographic order. -/
def ltL : List Int → List Int → Bool
  | _, [] => false
  | [], _ :: _ => true
  | a :: xs, b :: ys => if a = b then ltL xs ys else decide (a < b)
/-- k equal ballots more. -/
def addS : List Grp → List Int → Int → List Grp
  | [], p, k => [⟨p, k⟩]
  | g :: gs, p, k => if ltL g.p p = true then g :: addS gs p k else if g.p = p then ⟨g.p, g.n + k⟩ :: gs else ⟨p, k⟩ :: g :: gs
theorem sumF_add (f : List Int → Bool) (gs : List Grp) (p : List Int) (k : Int) : sumF f (addS gs p k) = sumF f gs + (if f p = true then k else 0) := by
  induction gs with
  | nil => simp [addS, sumF]
  | cons g gs ih =>
    unfold addS
    split
    · rw [sumF_cons, ih, sumF_cons]; omega
    · split
      · next e =>
        rw [sumF_cons, sumF_cons, e]
        simp only
        split <;> omega
      · rw [sumF_cons]; simp only; omega
theorem PosG.add {gs : List Grp} (h : PosG gs) (p : List Int) {k : Int} (hk : 1 ≤ k) : PosG (addS gs p k) := by
  induction gs with
  | nil =>
    intro g hg
    have : g = ⟨p, k⟩ := by simpa [addS] using hg
    rw [this]; exact hk
  | cons a gs ih =>
    have ha := h a (by simp)
    unfold addS
    split
    · intro g hg
      rcases List.mem_cons.1 hg with e | e
      · rw [e]; exact ha
      · exact ih h.tail g e
    · split
      · intro g hg
        rcases List.mem_cons.1 hg with e | e
        · rw [e]; simp only; omega
        · exact h.tail g e
      · intro g hg
        rcases List.mem_cons.1 hg with e | e
        · rw [e]; exact hk
        · exact h g e
theorem mem_add {gs : List Grp} {p : List Int} {k : Int} {P : List Int → Prop} (h : ∀ g ∈ gs, P g.p) (hp : P p) : ∀ g ∈ addS gs p k, P g.p := by
  induction gs with
  | nil =>
    intro g hg
    have : g = ⟨p, k⟩ := by simpa [addS] using hg
    rw [this]; exact hp
  | cons a gs ih =>
    have ha := h a (by simp)
    unfold addS
    split
    · intro g hg
      rcases List.mem_cons.1 hg with e | e
      · rw [e]; exact ha
      · exact ih (fun g hg => h g (by simp [hg])) g e
    · split
      · intro g hg
        rcases List.mem_cons.1 hg with e | e
        · rw [e]; exact ha
        · exact h g (by simp [e])
      · intro g hg
        rcases List.mem_cons.1 hg with e | e
        · rw [e]; exact hp
        · exact h g e
/-- The pile of some ballots. -/
def makeS (bs : List (List Int)) : List Grp := bs.foldl (fun gs b => addS gs b 1) []
theorem makeS_snoc (bs : List (List Int)) (b : List Int) : makeS (bs ++ [b]) = addS (makeS bs) b 1 := by simp [makeS]
theorem fold_sum (f : List Int → Bool) (bs : List (List Int)) (gs : List Grp) : sumF f (bs.foldl (fun gs b => addS gs b 1) gs) = sumF f gs + (bs.countP f : Int) := by
  induction bs generalizing gs with
  | nil => simp
  | cons b bs ih =>
    rw [List.foldl_cons, ih, sumF_add, List.countP_cons]
    split <;> simp <;> omega
theorem make_sum (f : List Int → Bool) (bs : List (List Int)) : sumF f (makeS bs) = (bs.countP f : Int) := by
  unfold makeS; rw [fold_sum, sumF_nil, Int.zero_add]
theorem make_pos (bs : List (List Int)) : PosG (makeS bs) := by
  have : ∀ gs, PosG gs → PosG (bs.foldl (fun gs b => addS gs b 1) gs) := by
    induction bs with
    | nil => exact fun gs h => h
    | cons b bs ih => exact fun gs h => ih _ (h.add b (Int.le_refl _))
  exact this [] (fun g hg => by simp at hg)
theorem make_mem {bs : List (List Int)} {P : List Int → Prop} (h : ∀ b ∈ bs, P b) : ∀ g ∈ makeS bs, P g.p := by
  have : ∀ gs : List Grp, (∀ g ∈ gs, P g.p) → ∀ g ∈ bs.foldl (fun gs b => addS gs b 1) gs, P g.p := by
    induction bs with
    | nil => exact fun gs h => h
    | cons b bs ih => exact fun gs hg => ih (fun b hb => h b (by simp [hb])) _ (mem_add hg (h b (by simp)))
  exact this [] (fun g hg => by simp at hg)

/-- The first that remains, or -1. -/
def firstC (R : Int → Bool) (p : List Int) : Int := (p.find? R).getD (-1)
/-- The votes of c where R remains; -1: those of nobody. -/
def wt (R : Int → Bool) (gs : List Grp) (c : Int) : Int := sumF (fun p => decide (firstC R p = c)) gs
theorem first_iff {R : Int → Bool} {p : List Int} {c : Int} (h : c ≠ -1) : firstC R p = c ↔ p.find? R = some c := by
  unfold firstC
  cases hp : p.find? R with
  | none => simp; omega
  | some x => simp
theorem find_mono {R R' : Int → Bool} {p : List Int} {c : Int} (hs : ∀ d, R' d = true → R d = true) (hc : R' c = true) (h : p.find? R = some c) : p.find? R' = some c := by
  induction p with
  | nil => simp at h
  | cons a p ih =>
    rw [List.find?_cons] at h ⊢
    cases ha : R a with
    | true =>
      rw [ha] at h
      have : a = c := by simpa using h
      rw [this, hc]
    | false =>
      rw [ha] at h
      have : R' a = false := by
        cases g : R' a with
        | false => rfl
        | true => rw [hs a g] at ha; simp at ha
      rw [this]
      exact ih h
theorem wt_mono {R R' : Int → Bool} {gs : List Grp} {c : Int} (hp : PosG gs) (hs : ∀ d, R' d = true → R d = true) (hc : R' c = true) (h1 : c ≠ -1) : wt R gs c ≤ wt R' gs c := by
  refine sumF_le hp fun g _ h => ?_
  rw [decide_eq_true_iff, first_iff h1] at h ⊢
  exact find_mono hs hc h
/-- The ballots that are not blank. -/
def markedS (gs : List Grp) : Int := sumF (fun p => !p.isEmpty) gs
theorem wt_two {R : Int → Bool} {gs : List Grp} {c x : Int} (hp : PosG gs) (h1 : c ≠ -1) (h2 : x ≠ -1) (h : c ≠ x) : wt R gs c + wt R gs x ≤ markedS gs := by
  have hne : ∀ {y : Int} {g : Grp}, y ≠ -1 → decide (firstC R g.p = y) = true → (!g.p.isEmpty) = true := by
    intro y g hy e
    rw [decide_eq_true_iff, first_iff hy] at e
    cases hg : g.p with
    | nil => rw [hg] at e; simp at e
    | cons a t => rfl
  refine sumF_two hp (fun g _ e => hne h1 e) (fun g _ e => hne h2 e) (fun g _ e1 e2 => ?_)
  rw [decide_eq_true_iff] at e1 e2
  exact h (e1.symm.trans e2)

/-- x has the least votes of all that remain. -/
def Low (gs : List Grp) (R : Int → Bool) (x : Int) : Prop := R x = true ∧ ∀ d, R d = true → wt R gs x ≤ wt R gs d
/-- What can remain, by some way of breaking ties. -/
inductive Rch (n : Int) (gs : List Grp) : (Int → Bool) → Prop
  | full : Rch n gs (fun c => decide (0 ≤ c ∧ c < n))
  | step {R : Int → Bool} {x d : Int} : Rch n gs R → Low gs R x → R d = true → d ≠ x → Rch n gs (fun d => R d && decide (d ≠ x))
def single (c : Int) : Int → Bool := fun d => decide (d = c)
theorem Rch.range {n : Int} {gs : List Grp} {R : Int → Bool} (h : Rch n gs R) : ∀ c, R c = true → 0 ≤ c ∧ c < n := by
  induction h with
  | full => intro c hc; simpa using hc
  | step h _ _ _ ih => intro c hc; rw [Bool.and_eq_true] at hc; exact ih c hc.1

/-- One with more than half of the marked ballots remains. -/
theorem maj_stays {n : Int} {gs : List Grp} (hp : PosG gs) {x : Int} (hx : 0 ≤ x ∧ x < n) (hm : markedS gs < 2 * wt (fun c => decide (0 ≤ c ∧ c < n)) gs x) {R : Int → Bool} (h : Rch n gs R) : R x = true ∧ markedS gs < 2 * wt R gs x := by
  induction h with
  | full => exact ⟨by simpa using hx, hm⟩
  | @step R y d h hl hd hdy ih =>
    obtain ⟨i1, i2⟩ := ih
    have hyx : x ≠ y := by
      rintro rfl
      have h1 := hl.2 d hd
      have h2 := wt_two (R := R) hp (by omega) (by have := h.range d hd; omega) (Ne.symm hdy)
      omega
    have hR : (R x && decide (x ≠ y)) = true := by simp [i1, hyx]
    refine ⟨hR, ?_⟩
    have := wt_mono (R := R) (gs := gs) hp (R' := fun d => R d && decide (d ≠ y)) (fun d hd => (Bool.and_eq_true _ _ ▸ hd : _ ∧ _).1) hR (by omega)
    omega
theorem maj_wins {n : Int} {gs : List Grp} (hp : PosG gs) {x c : Int} (hx : 0 ≤ x ∧ x < n) (hm : markedS gs < 2 * wt (fun c => decide (0 ≤ c ∧ c < n)) gs x) (h : Rch n gs (single c)) : c = x := by
  have := (maj_stays hp hx hm h).1
  simp [single] at this
  exact this.symm

/-- A majority that ranks the set A before all others. -/
theorem solid_stays {n : Int} {gs : List Grp} (hp : PosG gs) {A : Int → Bool} {f : List Int → Bool} (hA : ∃ a, A a = true ∧ 0 ≤ a ∧ a < n) (hf : ∀ g ∈ gs, f g.p = true → ∀ R : Int → Bool, ∀ a, A a = true → R a = true → (∀ b, A b = true → R b = true → b = a) → 0 ≤ a → firstC R g.p = a)
    (hm : markedS gs < 2 * sumF f gs) {R : Int → Bool} (h : Rch n gs R) : ∃ a, A a = true ∧ R a = true := by
  induction h with
  | full => obtain ⟨a, h1, h2⟩ := hA; exact ⟨a, h1, by simpa using h2⟩
  | @step R y d h hl hd hdy ih =>
    obtain ⟨a, h1, h2⟩ := ih
    by_cases hay : ∃ b, A b = true ∧ R b = true ∧ b ≠ y
    · obtain ⟨b, b1, b2, b3⟩ := hay
      exact ⟨b, b1, by simp [b2, b3]⟩
    · have hall : ∀ b, A b = true → R b = true → b = y := fun b b1 b2 => Classical.byContradiction fun g => hay ⟨b, b1, b2, g⟩
      have e := hall a h1 h2
      subst e
      have hr := h.range a h2
      have hs : sumF f gs ≤ wt R gs a := sumF_le hp fun g hg hh => by
        rw [decide_eq_true_iff]
        exact hf g hg hh R a h1 h2 (fun b b1 b2 => hall b b1 b2) hr.1
      have k1 := hl.2 d hd
      have k2 := wt_two (R := R) hp (by omega) (by have := h.range d hd; omega) (Ne.symm hdy)
      omega

/-- The set of two. -/
def pair (a b : Int) : Int → Bool := fun d => decide (d = a) || decide (d = b)
theorem last_step {n : Int} {gs : List Grp} {c : Int} (hn : 2 ≤ n) (h : Rch n gs (single c)) : ∃ x, x ≠ c ∧ 0 ≤ x ∧ x < n ∧ wt (pair c x) gs x ≤ wt (pair c x) gs c := by
  generalize hS : single c = S at h
  cases h with
  | full =>
    have h0 := congrFun hS 0
    have h1 := congrFun hS 1
    simp only [single] at h0 h1
    have e0 : (0 : Int) = c := by rw [decide_eq_decide] at h0; exact h0.2 (by omega)
    have e1 : (1 : Int) = c := by rw [decide_eq_decide] at h1; exact h1.2 (by omega)
    omega
  | @step R x d h hl hd hdx =>
    have hc : R c = true ∧ c ≠ x := by
      have := congrFun hS c
      simpa [single] using this.symm
    have hR : R = pair c x := by
      funext y
      have := congrFun hS y
      simp only [single] at this
      unfold pair
      by_cases hy : y = x
      · subst hy; simp [hl.1]
      · by_cases hyc : y = c
        · subst hyc; simp [hc.1]
        · simp only [hyc, hy, decide_false, Bool.or_self]
          simpa [hyc, hy] using this.symm
    have hr := h.range x hl.1
    refine ⟨x, fun e => hc.2 e.symm, hr.1, hr.2, ?_⟩
    have := hl.2 c hc.1
    rw [hR] at this
    exact this

end Go.Proofs.Nums

/- Lists of integers in lexicographic order: the reference's Less and Eq, slices.Compare; pile.isBallot. -/
namespace Go.Proofs.Nums

theorem lt_at {a b : List Int} {k : Nat} (ha : k < a.length) (hb : k < b.length) (h : a.take k = b.take k) (hne : a.getD k 0 ≠ b.getD k 0) : ltL a b = decide (a.getD k 0 < b.getD k 0) := by
  induction k generalizing a b with
  | zero =>
    cases a with
    | nil => simp at ha
    | cons x a =>
      cases b with
      | nil => simp at hb
      | cons y b =>
        have : ¬ x = y := by simpa using hne
        simp [ltL, this]
  | succ k ih =>
    cases a with
    | nil => simp at ha
    | cons x a =>
      cases b with
      | nil => simp at hb
      | cons y b =>
        rw [List.take_succ_cons, List.take_succ_cons, List.cons.injEq] at h
        unfold ltL
        rw [if_pos h.1]
        simpa using ih (by simpa using ha) (by simpa using hb) h.2 (by simpa using hne)
theorem lt_end {a b : List Int} {k : Nat} (ha : k ≤ a.length) (hb : k ≤ b.length) (h : a.take k = b.take k) (hk : k = a.length ∨ k = b.length) : ltL a b = decide (a.length < b.length) := by
  induction k generalizing a b with
  | zero =>
    cases a with
    | nil => cases b <;> simp [ltL]
    | cons x a =>
      cases b with
      | nil => simp [ltL]
      | cons y b => simp at hk
  | succ k ih =>
    cases a with
    | nil => simp at ha
    | cons x a =>
      cases b with
      | nil => simp at hb
      | cons y b =>
        rw [List.take_succ_cons, List.take_succ_cons, List.cons.injEq] at h
        unfold ltL
        rw [if_pos h.1, ih (by simpa using ha) (by simpa using hb) h.2 (by simpa using hk)]
        simp
theorem take_same {a b : List Int} {k : Nat} (ha : k < a.length) (hb : k < b.length) (h : a.take k = b.take k) (he : a.getD k 0 = b.getD k 0) : a.take (k + 1) = b.take (k + 1) := by
  rw [take_snoc_i ha, take_snoc_i hb, h, he]
theorem ltL_irr (a : List Int) : ltL a a = false := by
  induction a with
  | nil => rfl
  | cons x a ih => unfold ltL; rw [if_pos rfl]; exact ih
theorem ltL_neither {a b : List Int} : (ltL a b = false ∧ ltL b a = false) ↔ a = b := by
  constructor
  · induction a generalizing b with
    | nil =>
      cases b with
      | nil => exact fun _ => rfl
      | cons y b => intro h; simp [ltL] at h
    | cons x a ih =>
      cases b with
      | nil => intro h; simp [ltL] at h
      | cons y b =>
        intro h
        unfold ltL at h
        by_cases e : x = y
        · subst e
          rw [if_pos rfl, if_pos rfl] at h
          rw [ih h]
        · rw [if_neg e, if_neg (fun g => e g.symm), decide_eq_false_iff_not, decide_eq_false_iff_not] at h
          omega
  · rintro rfl
    exact ⟨ltL_irr _, ltL_irr _⟩
theorem ltL_asy {a b : List Int} (h : ltL a b = true) : ltL b a = false := by
  induction a generalizing b with
  | nil =>
    cases b with
    | nil => rfl
    | cons y b => rfl
  | cons x a ih =>
    cases b with
    | nil => simp [ltL] at h
    | cons y b =>
      unfold ltL at h ⊢
      by_cases e : x = y
      · subst e
        rw [if_pos rfl] at h ⊢
        exact ih h
      · rw [if_neg e, decide_eq_true_iff] at h
        rw [if_neg (fun g => e g.symm), decide_eq_false_iff_not]
        omega
/-- slices.Compare. -/
def cmpL (a b : List Int) : Int := if ltL a b = true then -1 else if ltL b a = true then 1 else 0
theorem cmpL_ge {a b : List Int} : decide (0 ≤ cmpL a b) = !ltL a b := by
  unfold cmpL
  cases ltL a b <;> cases ltL b a <;> simp
theorem eqL_dec {a b : List Int} : (!ltL a b && !ltL b a) = decide (a = b) := by
  rw [Bool.eq_iff_iff, decide_eq_true_iff, ← ltL_neither]
  simp

end Go.Proofs.Nums
namespace Go.Proofs.Ytbnhgmikegdppaa
open Go.RowKit Go.Proofs.Kit Go.Proofs.Nums

set_option maxHeartbeats 4000000 in
theorem less_c {va vb : Value} {a b : List Int} {w : World} (ha : IntsAt w va a) (hb : IntsAt w vb b) :
    Calls Try.prog 42 #[va, vb] w fun e w' => e = .returned (.bool (ltL a b)) ∧ Below w.heap.size w w' := by
  have HA := Lib.hid ha
  have HB := Lib.hid hb
  have ham := ha.len
  have hbm := hb.len
  obtain ⟨p, c, rfl⟩ := ha.shape
  obtain ⟨p', c', rfl⟩ := hb.shape
  obtain ⟨na, hna⟩ : ∃ n, a.length = n := ⟨_, rfl⟩
  obtain ⟨nb, hnb⟩ : ∃ n, b.length = n := ⟨_, rfl⟩
  have LA := Lib.hid hna
  have LB := Lib.hid hnb
  obtain ⟨r, hr⟩ : ∃ r, ltL a b = r := ⟨_, rfl⟩
  have HR := Lib.hid hr
  rw [hr]
  rw [hna] at ham HA ⊢
  rw [hnb] at hbm HB ⊢
  clear ha hb hna hnb hr
  go_enter Try.func42, Try.ntmps42
  go_wp2_with fail
  go_loopw [5] (fun iv wr => ∃ k : Nat, k ≤ na ∧ k ≤ nb ∧ iv = .int .i64 k ∧ Below w.heap.size w wr ∧ Hid (a.take k = b.take k)) (fun iv _ => na - (intOf iv).toNat)
  case atStart => exact ⟨0, by omega, by omega, rfl, Below.refl _ _, Lib.hid rfl⟩
  case round =>
    obtain ⟨k, hka, hkb, rfl, hbel, hP⟩ := hrel
    by_cases h1 : k < na
    · have z1 : (k : Int) < (na : Int) := by omega
      by_cases h2 : k < nb
      · have z2 : (k : Int) < (nb : Int) := by omega
        obtain ⟨b1, o1, e1, i1, i2, hc1⟩ := (HA.out.keep hbel).cellAt k (by rw [LA.out]; exact h1)
        obtain ⟨b2, o2, e2, j1, j2, hc2⟩ := (HB.out.keep hbel).cellAt k (by rw [LB.out]; exact h2)
        subst e1; subst e2
        obtain ⟨x, hx⟩ : ∃ x, a.getD k 0 = x := ⟨_, rfl⟩
        obtain ⟨y, hy⟩ : ∃ y, b.getD k 0 = y := ⟨_, rfl⟩
        rw [hx] at hc1
        rw [hy] at hc2
        have hd1 : wr.drew.cell? ⟨b1, o1 + k, none⟩ = some (.int .i64 x) := hc1
        have hd2 : wr.drew.cell? ⟨b2, o2 + k, none⟩ = some (.int .i64 y) := hc2
        by_cases hxy : x = y
        · have HX : Hid (a.take (k + 1) = b.take (k + 1)) := Lib.hid (take_same (by rw [LA.out]; exact h1) (by rw [LB.out]; exact h2) hP.out (by rw [hx, hy, hxy]))
          have q1 : (x == y) = true := by rw [hxy]; simp
          have q2 : (x != y) = false := by rw [hxy]; simp
          clear hx hy hxy
          go_wp2_with fail
          go_quiet (fail)
          all_goals
            go_wp2_with fail
            go_roundw
            case rel => exact ⟨k + 1, by omega, by omega, by go_num, below_drewN hbel _, HX⟩
            case measure => simp [intOf] <;> omega
        · have HX : Hid (decide (x < y) = r) := Lib.hid (by rw [← HR.out, lt_at (by rw [LA.out]; exact h1) (by rw [LB.out]; exact h2) hP.out (by rw [hx, hy]; exact hxy), hx, hy])
          have q1 : (x == y) = false := by rw [beq_eq_false_iff_ne]; exact hxy
          have q2 : (x != y) = true := by simpa using hxy
          clear hx hy hxy
          obtain ⟨dd, hdd⟩ : ∃ dd, decide (x < y) = dd := ⟨_, rfl⟩
          rw [hdd] at HX
          go_wp2_with fail
          go_quiet (fail)
          all_goals
            go_wp2_with fail
            go_quiet (fail)
            all_goals
              go_wp2_with fail
              go_ret
              exact ⟨ret_bb (by first | exact HX.out | (rw [hdd]; exact HX.out)), below_drewN (below_drewN hbel _) _⟩
      · have z2 : ¬ (k : Int) < (nb : Int) := by omega
        have HX : Hid (decide (na < nb) = r) := Lib.hid (by
          rw [← HR.out, lt_end (by rw [LA.out]; omega) (by rw [LB.out]; omega) hP.out (.inr (by rw [LB.out]; omega)), LA.out, LB.out])
        go_wp2_with fail
        go_ret
        exact ⟨ret_bb HX.out, hbel⟩
    · have z1 : ¬ (k : Int) < (na : Int) := by omega
      have HX : Hid (decide (na < nb) = r) := Lib.hid (by
        rw [← HR.out, lt_end (by rw [LA.out]; omega) (by rw [LB.out]; omega) hP.out (.inl (by rw [LA.out]; omega)), LA.out, LB.out])
      go_wp2_with fail
      go_ret
      exact ⟨ret_bb HX.out, hbel⟩

set_option maxHeartbeats 1000000 in
theorem eq_c {va vb : Value} {a b : List Int} {w : World} (ha : IntsAt w va a) (hb : IntsAt w vb b) :
    Calls Try.prog 13 #[va, vb] w fun e w' => e = .returned (.bool (decide (a = b))) ∧ Below w.heap.size w w' := by
  have L1 := Lib.hid (less_c ha hb)
  have L2 : Hid (∀ w', Below w.heap.size w w' → Calls Try.prog 42 #[vb, va] w' fun e w'' => e = .returned (.bool (ltL b a)) ∧ Below w'.heap.size w' w'') := Lib.hid (fun w' h => less_c (hb.keep h) (ha.keep h))
  have HE : Hid ((!ltL a b && !ltL b a) = decide (a = b)) := Lib.hid eqL_dec
  obtain ⟨r, hr⟩ : ∃ r, decide (a = b) = r := ⟨_, rfl⟩
  obtain ⟨x, hx⟩ : ∃ r, ltL a b = r := ⟨_, rfl⟩
  obtain ⟨y, hy⟩ : ∃ r, ltL b a = r := ⟨_, rfl⟩
  rw [hr] at HE ⊢
  rw [hx] at HE L1
  rw [hy] at HE L2
  clear ha hb hr hx hy
  cases x
  · have HE : Hid ((!y) = r) := Lib.hid (by have := HE.out; simpa using this)
    go_enter Try.func13, Try.ntmps13
    go_wp2_with (first | (go_at_call 42; ((with_reducible refine L1.out.mono ?_); rintro _ w1 ⟨rfl, hb1⟩)) | (go_at_call 42; ((with_reducible refine (L2.out _ hb1).mono ?_); rintro _ w2 ⟨rfl, hb2⟩)))
    go_ret
    exact ⟨ret_bb (by first | exact HE.out | simpa using HE.out), bel2' hb1 hb2⟩
  · have HE : Hid (false = r) := Lib.hid (by have := HE.out; simpa using this)
    go_enter Try.func13, Try.ntmps13
    go_wp2_with (first | (go_at_call 42; ((with_reducible refine L1.out.mono ?_); rintro _ w1 ⟨rfl, hb1⟩)))
    go_ret
    exact ⟨ret_bb HE.out, hb1⟩

end Go.Proofs.Ytbnhgmikegdppaa

/- slices.Compare and pile.isBallot. -/
namespace Go.Proofs.Ytbnhgmikegdppaa
open Go.RowKit Go.Proofs.Kit Go.Proofs.Nums

set_option maxHeartbeats 1000000 in
theorem isnan_c (x : Int) (w : World) : Calls Try.prog 109 #[.int .i64 x] w fun e w' => e = .returned (.bool false) ∧ w = w' := by
  have q1 : (x == x) = true := by simp
  have q2 : (x != x) = false := by simp
  go_enter Try.func109, Try.ntmps109
  go_wp2_with fail
  go_ret
  exact ⟨by simp, rfl⟩

/-- cmp.Compare. -/
def cmpI (x y : Int) : Int := if x < y then -1 else if y < x then 1 else 0
set_option maxHeartbeats 1000000 in
theorem cmpint_c (x y : Int) (w : World) : Calls Try.prog 101 #[.int .i64 x, .int .i64 y] w fun e w' => e = .returned (.int .i64 (cmpI x y)) ∧ w = w' := by
  have N1 := Lib.hid (isnan_c x w)
  have N2 := Lib.hid (isnan_c y w)
  obtain ⟨z, hz⟩ : ∃ z, cmpI x y = z := ⟨_, rfl⟩
  have HZ := Lib.hid hz
  rw [hz]
  clear hz
  rcases Int.lt_trichotomy x y with h | h | h
  · have HX : Hid ((-1 : Int) = z) := Lib.hid (by rw [← HZ.out]; unfold cmpI; rw [if_pos h])
    go_enter Try.func101, Try.ntmps101
    go_wp2_with (first | (go_at_call 109; ((with_reducible refine N1.out.mono ?_); rintro _ _ ⟨rfl, rfl⟩)) | (go_at_call 109; ((with_reducible refine N2.out.mono ?_); rintro _ _ ⟨rfl, rfl⟩)))
    go_ret
    exact ⟨ret_ii HX.out, rfl⟩
  · have HX : Hid ((0 : Int) = z) := Lib.hid (by rw [← HZ.out]; unfold cmpI; rw [if_neg (by omega), if_neg (by omega)])
    have h1 : ¬ x < y := by omega
    have h2 : ¬ y < x := by omega
    clear h
    go_enter Try.func101, Try.ntmps101
    go_wp2_with (first | (go_at_call 109; ((with_reducible refine N1.out.mono ?_); rintro _ _ ⟨rfl, rfl⟩)) | (go_at_call 109; ((with_reducible refine N2.out.mono ?_); rintro _ _ ⟨rfl, rfl⟩)))
    go_ret
    exact ⟨ret_ii HX.out, rfl⟩
  · have HX : Hid ((1 : Int) = z) := Lib.hid (by rw [← HZ.out]; unfold cmpI; rw [if_neg (by omega), if_pos h])
    have h1 : ¬ x < y := by omega
    go_enter Try.func101, Try.ntmps101
    go_wp2_with (first | (go_at_call 109; ((with_reducible refine N1.out.mono ?_); rintro _ _ ⟨rfl, rfl⟩)) | (go_at_call 109; ((with_reducible refine N2.out.mono ?_); rintro _ _ ⟨rfl, rfl⟩)))
    go_ret
    exact ⟨ret_ii HX.out, rfl⟩

set_option maxHeartbeats 2000000 in
theorem compareL_c {va vb : Value} {a b : List Int} {w : World} (ha : IntsAt w va a) (hb : IntsAt w vb b) :
    Calls Try.prog 88 #[va, vb] w fun e w' => e = .returned (.int .i64 (cmpL a b)) ∧ w = w' := by
  have HA := Lib.hid ha
  have HB := Lib.hid hb
  have CC := Lib.hid (fun x y => cmpint_c x y w)
  have ham := ha.len
  have hbm := hb.len
  obtain ⟨p, c, rfl⟩ := ha.shape
  obtain ⟨p', c', rfl⟩ := hb.shape
  obtain ⟨na, hna⟩ : ∃ n, a.length = n := ⟨_, rfl⟩
  obtain ⟨nb, hnb⟩ : ∃ n, b.length = n := ⟨_, rfl⟩
  have LA := Lib.hid hna
  have LB := Lib.hid hnb
  obtain ⟨r, hr⟩ : ∃ r, cmpL a b = r := ⟨_, rfl⟩
  have HR := Lib.hid hr
  rw [hr]
  rw [hna] at ham HA ⊢
  rw [hnb] at hbm HB ⊢
  clear ha hb hna hnb hr
  go_enter Try.func88, Try.ntmps88
  go_wp2_with fail
  go_loopw [11] (fun iv wr => ∃ k : Nat, k ≤ na ∧ k ≤ nb ∧ iv = .int .i64 k ∧ wr = w ∧ Hid (a.take k = b.take k)) (fun iv _ => na - (intOf iv).toNat)
  case atStart => exact ⟨0, by omega, by omega, rfl, rfl, Lib.hid rfl⟩
  case round =>
    obtain ⟨k, hka, hkb, rfl, rfl, hP⟩ := hrel
    by_cases h1 : k < na
    · have z1 : (k : Int) < (na : Int) := by omega
      by_cases h2 : k < nb
      · have z2 : (k : Int) < (nb : Int) := by omega
        have z3 : ¬ (nb : Int) ≤ (k : Int) := by omega
        obtain ⟨b1, o1, e1, i1, i2, hc1⟩ := HA.out.cellAt k (by rw [LA.out]; exact h1)
        obtain ⟨b2, o2, e2, j1, j2, hc2⟩ := HB.out.cellAt k (by rw [LB.out]; exact h2)
        subst e1; subst e2
        obtain ⟨x, hx⟩ : ∃ x, a.getD k 0 = x := ⟨_, rfl⟩
        obtain ⟨y, hy⟩ : ∃ y, b.getD k 0 = y := ⟨_, rfl⟩
        rw [hx] at hc1
        rw [hy] at hc2
        have C := CC.out x y
        obtain ⟨z, hz⟩ : ∃ z, cmpI x y = z := ⟨_, rfl⟩
        rw [hz] at C
        have C := Lib.hid C
        by_cases hxy : x = y
        · have HX : Hid (a.take (k + 1) = b.take (k + 1)) := Lib.hid (take_same (by rw [LA.out]; exact h1) (by rw [LB.out]; exact h2) hP.out (by rw [hx, hy, hxy]))
          have hz0 : z = 0 := by rw [← hz, hxy]; unfold cmpI; rw [if_neg (by omega), if_neg (by omega)]
          subst hz0
          clear hx hy hxy hz
          go_wp2_with (go_at_call 101; ((with_reducible refine C.out.mono ?_); rintro _ _ ⟨rfl, rfl⟩))
          go_roundw
          case rel => exact ⟨k + 1, by omega, by omega, by go_num, by trivial, HX⟩
          case measure => simp [intOf] <;> omega
        · have HX : Hid (z = r) := Lib.hid (by
            rw [← HR.out, ← hz]
            unfold cmpL cmpI
            rw [lt_at (by rw [LA.out]; exact h1) (by rw [LB.out]; exact h2) hP.out (by rw [hx, hy]; exact hxy), lt_at (a := b) (by rw [LB.out]; exact h2) (by rw [LA.out]; exact h1) hP.out.symm (by rw [hx, hy]; exact Ne.symm hxy), hx, hy]
            simp only [decide_eq_true_iff])
          have hz0 : z ≠ 0 := by
            rw [← hz]; unfold cmpI
            split
            · omega
            · split <;> omega
          have q1 : (z == 0) = false := by rw [beq_eq_false_iff_ne]; exact hz0
          have q2 : (z != 0) = true := by simpa using hz0
          clear hx hy hxy hz
          go_wp2_with (go_at_call 101; ((with_reducible refine C.out.mono ?_); rintro _ _ ⟨rfl, rfl⟩))
          go_ret
          exact ⟨ret_ii HX.out, rfl⟩
      · have z2 : ¬ (k : Int) < (nb : Int) := by omega
        have z3 : (nb : Int) ≤ (k : Int) := by omega
        obtain ⟨b1, o1, e1, i1, i2, hc1⟩ := HA.out.cellAt k (by rw [LA.out]; exact h1)
        subst e1
        have HX : Hid ((1 : Int) = r) := Lib.hid (by
          rw [← HR.out]
          unfold cmpL
          rw [lt_end (by rw [LA.out]; omega) (by rw [LB.out]; omega) hP.out (.inr (by rw [LB.out]; omega)), lt_end (a := b) (by rw [LB.out]; omega) (by rw [LA.out]; omega) hP.out.symm (.inl (by rw [LB.out]; omega)), LA.out, LB.out, if_neg (by simp; omega), if_pos (by simp; omega)])
        go_wp2_with fail
        go_ret
        exact ⟨ret_ii HX.out, rfl⟩
    · have z1 : ¬ (k : Int) < (na : Int) := by omega
      by_cases h2 : (na : Int) < (nb : Int)
      · have HX : Hid ((-1 : Int) = r) := Lib.hid (by
          rw [← HR.out]
          unfold cmpL
          rw [lt_end (by rw [LA.out]; omega) (by rw [LB.out]; omega) hP.out (.inl (by rw [LA.out]; omega)), LA.out, LB.out, if_pos (by simp; omega)])
        go_wp2_with fail
        go_ret
        exact ⟨ret_ii HX.out, rfl⟩
      · have HX : Hid ((0 : Int) = r) := Lib.hid (by
          rw [← HR.out]
          unfold cmpL
          rw [lt_end (by rw [LA.out]; omega) (by rw [LB.out]; omega) hP.out (.inl (by rw [LA.out]; omega)), lt_end (a := b) (by rw [LB.out]; omega) (by rw [LA.out]; omega) hP.out.symm (.inr (by rw [LA.out]; omega)), LA.out, LB.out, if_neg (by simp; omega), if_neg (by simp; omega)])
        go_wp2_with fail
        go_ret
        exact ⟨ret_ii HX.out, rfl⟩

set_option maxRecDepth 100000 in
set_option maxHeartbeats 4000000 in
theorem isballot_c {v : Value} {l : List Int} {w : World} (hv : IntsAt w v l) (n : Nat) (h7 : n ≤ 7) :
    Calls Try.prog 87 #[.int .i64 n, v] w fun e w' => e = .returned (.bool (balS n l)) ∧ Below w.heap.size w w' := by
  have H := Lib.hid hv
  have hlm := hv.len
  obtain ⟨p, c, rfl⟩ := hv.shape
  obtain ⟨len, hlen⟩ : ∃ n, l.length = n := ⟨_, rfl⟩
  have HN := Lib.hid hlen
  rw [hlen] at hlm H ⊢
  clear hv hlen
  obtain ⟨r, hr⟩ : ∃ r, balS n l = r := ⟨_, rfl⟩
  rw [hr]
  have HRT : Hid (BalP n l → r = true) := Lib.hid (fun h => by rw [← hr]; unfold balS; exact decide_eq_true h)
  have HRF : Hid (¬ BalP n l → r = false) := Lib.hid (fun h => by rw [← hr]; unfold balS; exact decide_eq_false h)
  clear hr
  obtain ⟨W, hW⟩ : ∃ W, w.alloc (.cells #[.bool false, .bool false, .bool false, .bool false, .bool false, .bool false, .bool false] 139) = W := ⟨_, rfl⟩
  have hBW : Below w.heap.size w W := by rw [← hW]; exact (Below.refl _ _).alloc (Nat.le_refl _) _
  have A0 : Hid (Blk w.heap.size (seenA []) W) := Lib.hid (by rw [← hW]; exact Blk.new w _ _)
  go_enter Try.func87, Try.ntmps87
  go_wp2_with fail
  go_loopw [10] (fun iv wr => ∃ k : Nat, k ≤ len ∧ iv = .int .i64 k ∧ Below w.heap.size w wr ∧ Hid (Blk w.heap.size (seenA (l.take k)) wr) ∧ Hid (BalP n (l.take k))) (fun iv _ => len - (intOf iv).toNat)
  case atStart => exact ⟨0, by omega, rfl, hBW, A0, Lib.hid ⟨fun c hc => by simp at hc, by simp⟩⟩
  case round =>
    obtain ⟨k, hk, rfl, hbel, hB, hP⟩ := hrel
    by_cases hlt : k < len
    · have hltz : (k : Int) < (len : Int) := by omega
      obtain ⟨bb, off, hp0, hc1, hc2, hcell⟩ := (H.out.keep hbel).cellAt k (by rw [HN.out]; exact hlt)
      subst hp0
      obtain ⟨y, hy⟩ : ∃ y, l.getD k 0 = y := ⟨_, rfl⟩
      rw [hy] at hcell
      have HY := Lib.hid hy
      by_cases y0 : y < 0
      · have HX : Hid (r = false) := Lib.hid (HRF.out (bal_no_range (by rw [HN.out]; exact hlt) HY.out (by omega)))
        have e0 : decide (y < 0) = true := decide_eq_true y0
        clear hy
        go_wp2_with fail
        go_ret
        exact ⟨ret_bb HX.out.symm, hbel⟩
      have e0 : decide (y < 0) = false := decide_eq_false y0
      by_cases y1 : (n : Int) ≤ y
      · have HX : Hid (r = false) := Lib.hid (HRF.out (bal_no_range (by rw [HN.out]; exact hlt) HY.out (by omega)))
        have e1 : decide ((n : Int) ≤ y) = true := decide_eq_true y1
        clear hy
        go_wp2_with fail
        go_ret
        exact ⟨ret_bb HX.out.symm, hbel⟩
      have e1 : decide ((n : Int) ≤ y) = false := decide_eq_false y1
      obtain ⟨yn, hyn⟩ : ∃ j : Nat, y = j := ⟨y.toNat, by omega⟩
      subst hyn
      have hy7 : yn < 7 := by omega
      have hy7z : (yn : Int) < 7 := by omega
      have hs := (hB.out.2.1 yn).trans (seenA_at _ hy7)
      have hfr := hB.out.2.2 yn
      have hts := take_snoc_i (l := l) (k := k) (by rw [HN.out]; exact hlt)
      rw [hy] at hts
      have HB2 : Hid (Blk w.heap.size (seenA (l.take (k + 1))) (wr.setCell ⟨w.heap.size, yn, none⟩ (.bool true))) := Lib.hid (by rw [hts]; exact seenA_put hB.out hy7)
      clear hts
      cases hb : hasB (l.take k) yn
      · rw [hb] at hs
        have HX := Lib.hid (BalP.snoc (by rw [HN.out]; exact hlt) HY.out hP.out (by omega) (by omega) hb)
        clear hy hb
        go_wp2_with fail
        go_roundw
        case rel => exact ⟨k + 1, by omega, by go_num, hbel.setCell (Nat.le_refl _) _, HB2, HX⟩
        case measure => simp [intOf] <;> omega
      · rw [hb] at hs
        have HX : Hid (r = false) := Lib.hid (HRF.out (bal_no_dup (by rw [HN.out]; exact hlt) HY.out hb))
        clear hy hb
        go_wp2_with fail
        go_ret
        exact ⟨ret_bb HX.out.symm, hbel⟩
    · have hltz : ¬ (k : Int) < (len : Int) := by omega
      have HX : Hid (r = true) := Lib.hid (HRT.out (by have := hP.out; rwa [List.take_of_length_le (by rw [HN.out]; omega)] at this))
      go_wp2_with fail
      go_ret
      exact ⟨ret_bb HX.out.symm, hbel⟩

end Go.Proofs.Ytbnhgmikegdppaa

/- Groups of equal ballots; pile.isPile. -/
namespace Go.Proofs.Nums

theorem ltL_tr {a b c : List Int} (h : ltL a b = true) (g : ltL b c = true) : ltL a c = true := by
  induction a generalizing b c with
  | nil =>
    cases b with
    | nil => simp [ltL] at h
    | cons y b =>
      cases c with
      | nil => simp [ltL] at g
      | cons z c => rfl
  | cons x a ih =>
    cases b with
    | nil => simp [ltL] at h
    | cons y b =>
      cases c with
      | nil => simp [ltL] at g
      | cons z c =>
        unfold ltL at h g ⊢
        by_cases e : x = y
        · subst e
          rw [if_pos rfl] at h
          by_cases f : x = z
          · subst f
            rw [if_pos rfl] at g ⊢
            exact ih h g
          · rw [if_neg f] at g ⊢; exact g
        · rw [if_neg e, decide_eq_true_iff] at h
          by_cases f : y = z
          · subst f
            rw [if_neg e, decide_eq_true_iff]; exact h
          · rw [if_neg f, decide_eq_true_iff] at g
            rw [if_neg (by omega), decide_eq_true_iff]; omega
def totS (gs : List Grp) : Int := sumF (fun _ => true) gs
/-- A pile for n candidates. -/
structure PileP (n : Int) (gs : List Grp) : Prop where
  bal : ∀ g ∈ gs, BalP n g.p
  pos : PosG gs
  tot : totS gs ≤ 100000
  srt : gs.Pairwise fun a b => ltL a.p b.p = true
noncomputable def pileS (n : Int) (gs : List Grp) : Bool := @decide (PileP n gs) (Classical.propDecidable _)
theorem pile_true {n : Int} {gs : List Grp} : pileS n gs = true ↔ PileP n gs := by unfold pileS; exact @decide_eq_true_iff _ (Classical.propDecidable _)
theorem pile_false {n : Int} {gs : List Grp} (h : ¬ PileP n gs) : pileS n gs = false := by unfold pileS; exact @decide_eq_false _ (Classical.propDecidable _) h
def g0 : Grp := ⟨[], 0⟩
theorem take_snoc_g {l : List Grp} {k : Nat} (h : k < l.length) : l.take (k + 1) = l.take k ++ [l.getD k g0] := by
  rw [List.take_add_one, List.getElem?_eq_getElem h, List.getD_eq_getElem?_getD, List.getElem?_eq_getElem h]
  rfl
theorem tot_snoc (gs : List Grp) (g : Grp) : totS (gs ++ [g]) = totS gs + g.n := by unfold totS; rw [sumF_snoc, if_pos rfl]
theorem PileP.nil (n : Int) : PileP n [] := ⟨fun g h => by simp at h, fun g h => by simp at h, by unfold totS; rw [sumF_nil]; omega, List.Pairwise.nil⟩
theorem PileP.snoc {n : Int} {gs : List Grp} {k : Nat} {g : Grp} (h : k < gs.length) (hg : gs.getD k g0 = g) (hp : PileP n (gs.take k)) (h1 : BalP n g.p) (h2 : 1 ≤ g.n) (h3 : totS (gs.take k) + g.n ≤ 100000) (h4 : 0 < k → ltL (gs.getD (k - 1) g0).p g.p = true) : PileP n (gs.take (k + 1)) := by
  rw [take_snoc_g h, hg]
  refine ⟨fun x hx => ?_, fun x hx => ?_, by rw [tot_snoc]; exact h3, ?_⟩
  · rcases List.mem_append.1 hx with e | e
    · exact hp.bal x e
    · rw [List.mem_singleton.1 e]; exact h1
  · rcases List.mem_append.1 hx with e | e
    · exact hp.pos x e
    · rw [List.mem_singleton.1 e]; exact h2
  · rw [List.pairwise_append]
    refine ⟨hp.srt, by simp, fun a ha b hb => ?_⟩
    rw [List.mem_singleton.1 hb]
    cases k with
    | zero => simp at ha
    | succ k =>
      have h4 := h4 (by omega)
      rw [Nat.add_sub_cancel] at h4
      have hs := hp.srt
      rw [take_snoc_g (by omega)] at ha hs
      rcases List.mem_append.1 ha with e | e
      · exact ltL_tr ((List.pairwise_append.1 hs).2.2 a e _ (by simp)) h4
      · rw [List.mem_singleton.1 e]; exact h4
theorem mem_getG {l : List Grp} {k : Nat} {x : Grp} (h : k < l.length) (h2 : l.getD k g0 = x) : x ∈ l := by
  rw [List.getD_eq_getElem?_getD, List.getElem?_eq_getElem h] at h2
  rw [← h2]
  exact List.getElem_mem h
theorem pile_no_bal {n : Int} {gs : List Grp} {k : Nat} {g : Grp} (h : k < gs.length) (hg : gs.getD k g0 = g) (h1 : ¬ BalP n g.p) : ¬ PileP n gs := fun hp => h1 (hp.bal g (mem_getG h hg))
theorem pile_no_pos {n : Int} {gs : List Grp} {k : Nat} {g : Grp} (h : k < gs.length) (hg : gs.getD k g0 = g) (h1 : g.n < 1) : ¬ PileP n gs := fun hp => by have := hp.pos g (mem_getG h hg); omega
theorem pile_no_tot {n : Int} {gs : List Grp} {k : Nat} {g : Grp} (h : k < gs.length) (hg : gs.getD k g0 = g) (h1 : 100000 - totS (gs.take k) < g.n) : ¬ PileP n gs := fun hp => by
  have e : gs = gs.take (k + 1) ++ gs.drop (k + 1) := (List.take_append_drop _ _).symm
  have ht := hp.tot
  have hd : 0 ≤ totS (gs.drop (k + 1)) := sumF_nn fun x hx => hp.pos x (List.mem_of_mem_drop hx)
  rw [e] at ht
  have : totS (gs.take (k + 1) ++ gs.drop (k + 1)) = totS (gs.take (k + 1)) + totS (gs.drop (k + 1)) := by
    unfold totS sumF
    rw [List.map_append, List.sum_append]
  rw [this, take_snoc_g h, hg, tot_snoc] at ht
  omega
theorem pile_no_srt {n : Int} {gs : List Grp} {k : Nat} {a b : Grp} (h : k + 1 < gs.length) (ha : gs.getD k g0 = a) (hb : gs.getD (k + 1) g0 = b) (h1 : ltL a.p b.p = false) : ¬ PileP n gs := fun hp => by
  have := List.pairwise_iff_getElem.1 hp.srt k (k + 1) (by omega) h (by omega)
  rw [List.getD_eq_getElem?_getD, List.getElem?_eq_getElem (by omega)] at ha
  rw [List.getD_eq_getElem?_getD, List.getElem?_eq_getElem h] at hb
  simp only [Option.getD_some] at ha hb
  rw [ha, hb, h1] at this
  simp at this
theorem tot_bd {n : Int} {gs : List Grp} (h : PileP n gs) : 0 ≤ totS gs := sumF_nn h.pos

end Go.Proofs.Nums
namespace Go.Proofs.Ytbnhgmikegdppaa
open Go.RowKit Go.Proofs.Kit Go.Proofs.Nums

/-- The two cells of a group. -/
def groupR (w : World) (c : List Value) (g : Grp) : Prop := ∃ u, c = [u, .int .i64 g.n] ∧ IntsAt w u g.p
theorem groupR.keep {w w' : World} {c : List Value} {g : Grp} (h : groupR w c g) (hb : Below w.heap.size w w') : groupR w' c g := by
  obtain ⟨u, h1, h2⟩ := h
  exact ⟨u, h1, h2.keep hb⟩
def PileAt (w : World) (v : Value) (gs : List Grp) : Prop := SliceOf groupR 2 w v gs
theorem PileAt.keep {w w' : World} {v : Value} {gs : List Grp} (h : PileAt w v gs) (hb : Below w.heap.size w w') : PileAt w' v gs := SliceOf.keep h hb fun _ _ g => g.keep hb
theorem PileAt.shp {w : World} {v : Value} {gs : List Grp} (h : PileAt w v gs) : ∃ p c, v = .slice p gs.length c := by
  obtain ⟨p, c, h, _⟩ := SliceOf.shape h
  exact ⟨p, c, h⟩
theorem PileAt.cellAt {w : World} {p : Option Addr} {n c : Nat} {gs : List Grp} (h : PileAt w (.slice p n c) gs) {k : Nat} (hk : k < gs.length) {g : Grp} (hg : gs.getD k g0 = g) :
    ∃ b off q m d, p = some ⟨b, off, none⟩ ∧ gs.length ≤ c ∧ c ≤ 9223372036854775807 ∧ w.cell? ⟨b, off + k * 2, none⟩ = some (.slice q m d) ∧ w.cell? ⟨b, off + k * 2 + 1, none⟩ = some (.int .i64 g.n) ∧ IntsAt w (.slice q m d) g.p ∧ m = g.p.length := by
  obtain ⟨b, off, cap, cs, hv, h1, h2, h3, h4, h5⟩ := SliceOf.at_ (by omega) h hk
  simp only [Value.slice.injEq] at hv
  obtain ⟨rfl, _, rfl⟩ := hv
  have e : gs[k] = g := by
    rw [List.getD_eq_getElem?_getD, List.getElem?_eq_getElem hk] at hg
    exact hg
  rw [e] at h4
  obtain ⟨u, rfl, hu⟩ := h4
  obtain ⟨q, d, rfl⟩ := hu.shape
  exact ⟨b, off, q, _, d, rfl, h1, h2, h5 0 _ rfl, h5 1 _ rfl, hu, rfl⟩

set_option maxRecDepth 100000 in
set_option maxHeartbeats 4000000 in
theorem ispile_c {v : Value} {gs : List Grp} {w : World} (hv : PileAt w v gs) (n : Nat) (h7 : n ≤ 7) :
    Calls Try.prog 73 #[.int .i64 n, v] w fun e w' => e = .returned (.bool (pileS n gs)) ∧ Below w.heap.size w w' := by
  have H := Lib.hid hv
  have hlm := SliceOf.len hv
  obtain ⟨p, c, rfl⟩ := hv.shp
  obtain ⟨len, hlen⟩ : ∃ n, gs.length = n := ⟨_, rfl⟩
  have HN := Lib.hid hlen
  rw [hlen] at hlm H ⊢
  clear hv hlen
  obtain ⟨r, hr⟩ : ∃ r, pileS n gs = r := ⟨_, rfl⟩
  rw [hr]
  have HRT : Hid (PileP n gs → r = true) := Lib.hid (fun h => by rw [← hr]; exact pile_true.2 h)
  have HRF : Hid (¬ PileP n gs → r = false) := Lib.hid (fun h => by rw [← hr]; exact pile_false h)
  clear hr
  go_enter Try.func73, Try.ntmps73
  go_wp2_with fail
  go_loopw [5, 10] (fun sv iv wr => ∃ k : Nat, ∃ s : Int, k ≤ len ∧ iv = .int .i64 k ∧ sv = .int .i64 s ∧ Below w.heap.size w wr ∧ Hid (s = totS (gs.take k)) ∧ Hid (PileP n (gs.take k)) ∧ 0 ≤ s ∧ s ≤ 100000) (fun _ iv _ => len - (intOf iv).toNat)
  case atStart => exact ⟨0, 0, by omega, rfl, rfl, Below.refl _ _, Lib.hid rfl, Lib.hid (PileP.nil _), by omega, by omega⟩
  case round =>
    obtain ⟨k, s, hk, rfl, rfl, hbel, hS, hP, s0, s1⟩ := hrel
    by_cases hlt : k < len
    · have hltz : (k : Int) < (len : Int) := by omega
      obtain ⟨g, hg⟩ : ∃ g, gs.getD k g0 = g := ⟨_, rfl⟩
      obtain ⟨bb, off, q, m, d, hp0, hc1, hc2, cl0, cl1, HI, hm⟩ := (H.out.keep hbel).cellAt (by rw [HN.out]; exact hlt) hg
      subst hp0
      obtain ⟨y, hy⟩ : ∃ y, g.n = y := ⟨_, rfl⟩
      rw [hy] at cl1
      have HI := Lib.hid HI
      have HM := Lib.hid hm
      have HG := Lib.hid hg
      have HY := Lib.hid hy
      clear hm hg hy
      have hbA : Below w.heap.size w (wr.alloc (.cells #[.slice q m d, .int .i64 y] 85)) := hbel.alloc hbel.size _
      by_cases y0 : y < 1
      · have HX : Hid (r = false) := Lib.hid (HRF.out (pile_no_pos (by rw [HN.out]; exact hlt) HG.out (by rw [HY.out]; exact y0)))
        have e0 : decide (y < 1) = true := decide_eq_true y0
        go_wp2_with fail
        go_ret
        exact ⟨ret_bb HX.out.symm, hbA⟩
      have e0 : decide (y < 1) = false := decide_eq_false y0
      have hw1 : IntKind.i64.wrap (100000 - s) = 100000 - s := w64 (by omega) (by omega)
      by_cases y1 : 100000 - s < y
      · have HX : Hid (r = false) := Lib.hid (HRF.out (pile_no_tot (by rw [HN.out]; exact hlt) HG.out (by rw [HY.out, ← hS.out]; exact y1)))
        have e1 : decide (100000 - s < y) = true := decide_eq_true y1
        go_wp2_with fail
        go_ret
        exact ⟨ret_bb HX.out.symm, hbA⟩
      have e1 : decide (100000 - s < y) = false := decide_eq_false y1
      have hbl : Below wr.heap.size wr (wr.alloc (.cells #[.slice q m d, .int .i64 y] 85)) := (Below.refl _ _).alloc (Nat.le_refl _) _
      have KB := Blk.new wr #[.slice q m d, .int .i64 y] 85
      have BC := isballot_c (HI.out.keep hbl) n h7
      obtain ⟨X, hX⟩ : ∃ X, wr.alloc (.cells #[.slice q m d, .int .i64 y] 85) = X := ⟨_, rfl⟩
      rw [hX] at hbA hbl KB BC
      have x0 : X.cell? ⟨wr.heap.size, 0, none⟩ = some (.slice q m d) := KB.2.1 0
      have x1 : X.cell? ⟨wr.heap.size, 1, none⟩ = some (.int .i64 y) := KB.2.1 1
      have hws : IntKind.i64.wrap (s + y) = s + y := w64 (by omega) (by omega)
      by_cases hbal : BalP n g.p
      · have hbt : balS n g.p = true := decide_eq_true hbal
        rw [hbt] at BC
        have BC := Lib.hid BC
        have KB := Lib.hid KB
        clear hbt
        cases k with
        | zero =>
          have HX : Hid (PileP n (gs.take (0 + 1))) := Lib.hid (hP.out.snoc (by rw [HN.out]; exact hlt) HG.out hbal (by rw [HY.out]; omega) (by rw [HY.out, ← hS.out]; omega) (fun h => by omega))
          have HS : Hid (s + y = totS (gs.take (0 + 1))) := Lib.hid (by rw [take_snoc_g (by rw [HN.out]; exact hlt), HG.out, tot_snoc, HY.out, hS.out])
          simp only [Nat.zero_mul, Nat.add_zero] at cl0 cl1
          clear hbal
          go_wp2_with (go_at_call 87; ((with_reducible refine BC.out.mono ?_); rintro _ w1 ⟨rfl, hb1⟩; obtain ⟨z0, z1⟩ := (show w1.cell? ⟨wr.heap.size, 0, none⟩ = some (.slice q m d) ∧ w1.cell? ⟨wr.heap.size, 1, none⟩ = some (.int .i64 y) from ⟨(KB.out.keep hb1).2.1 0, (KB.out.keep hb1).2.1 1⟩); have hB1 := bel2' hbA hb1))
          go_quiet (fail)
          all_goals
            go_wp2_with fail
            go_roundw
            case rel => exact ⟨0 + 1, s + y, by omega, by go_num, rfl, below_drewN hB1 _, HS, HX, by omega, by omega⟩
            case measure => simp [intOf] <;> omega
        | succ k =>
          obtain ⟨a, ha⟩ : ∃ g, gs.getD k g0 = g := ⟨_, rfl⟩
          obtain ⟨bb2, off2, q2, m2, d2, hp2, _, _, cm0, _, HI2, hm2⟩ := (H.out.keep hbel).cellAt (by rw [HN.out]; omega) ha
          simp only [Option.some.injEq, Addr.mk.injEq, and_true] at hp2
          obtain ⟨rfl, rfl⟩ := hp2
          have kz : (0 : Int) < ((k + 1 : Nat) : Int) := by omega
          have kz' : (0 : Int) < (k : Int) + 1 := by omega
          have HAq := Lib.hid ha
          have HAL := Lib.hid (fun w1 (hb1 : Below X.heap.size X w1) => bel2' hbl hb1)
          have CM := Lib.hid (fun w1 (hb : Below wr.heap.size wr w1) => compareL_c (HI2.keep hb) (HI.out.keep hb))
          have CE : Hid (wr.cell? ⟨bb, off + k * 2, none⟩ = some (.slice q2 m2 d2)) := Lib.hid cm0
          have hge := cmpL_ge (a := a.p) (b := g.p)
          obtain ⟨z, hz⟩ : ∃ z, cmpL a.p g.p = z := ⟨_, rfl⟩
          rw [hz] at hge
          have CM : Hid (∀ w1, Below wr.heap.size wr w1 → Calls Try.prog 88 #[.slice q2 m2 d2, .slice q m d] w1 fun e w' => e = .returned (.int .i64 z) ∧ w' = w1) := Lib.hid (fun w1 hb => (CM.out w1 hb).mono fun _ _ ⟨h1, h2⟩ => ⟨by rw [h1, hz], h2.symm⟩)
          clear ha hz HI2 hm2
          cases hl : ltL a.p g.p
          · have HX : Hid (r = false) := Lib.hid (HRF.out (pile_no_srt (by rw [HN.out]; exact hlt) HAq.out HG.out hl))
            rw [hl] at hge
            have hge : decide (0 ≤ z) = true := hge
            clear hl hbal
            go_wp2_with (go_at_call 87; ((with_reducible refine BC.out.mono ?_); rintro _ w1 ⟨rfl, hb1⟩; obtain ⟨z0, z1⟩ := (show w1.cell? ⟨wr.heap.size, 0, none⟩ = some (.slice q m d) ∧ w1.cell? ⟨wr.heap.size, 1, none⟩ = some (.int .i64 y) from ⟨(KB.out.keep hb1).2.1 0, (KB.out.keep hb1).2.1 1⟩); have hB1 := bel2' hbA hb1; have hB2 := HAL.out w1 hb1; have y0 := cell_keep hB2 CE.out; have CQ := Lib.hid (fun q => CM.out (w1.drewN q) (below_drewN hB2 q))))
            go_quiet ((go_at_call 88; exact Calls.quiet_of_same (CQ.out _)))
            all_goals
              go_wp2_with fail
              go_ret
              exact ⟨ret_bb HX.out.symm, below_drewN hB1 _⟩
          · have HX : Hid (PileP n (gs.take (k + 1 + 1))) := Lib.hid (hP.out.snoc (by rw [HN.out]; exact hlt) HG.out hbal (by rw [HY.out]; omega) (by rw [HY.out, ← hS.out]; omega) (fun _ => by rw [Nat.add_sub_cancel, HAq.out]; exact hl))
            have HS : Hid (s + y = totS (gs.take (k + 1 + 1))) := Lib.hid (by rw [take_snoc_g (by rw [HN.out]; exact hlt), HG.out, tot_snoc, HY.out, hS.out])
            rw [hl] at hge
            have hge : decide (0 ≤ z) = false := hge
            clear hl hbal
            go_wp2_with (go_at_call 87; ((with_reducible refine BC.out.mono ?_); rintro _ w1 ⟨rfl, hb1⟩; obtain ⟨z0, z1⟩ := (show w1.cell? ⟨wr.heap.size, 0, none⟩ = some (.slice q m d) ∧ w1.cell? ⟨wr.heap.size, 1, none⟩ = some (.int .i64 y) from ⟨(KB.out.keep hb1).2.1 0, (KB.out.keep hb1).2.1 1⟩); have hB1 := bel2' hbA hb1; have hB2 := HAL.out w1 hb1; have y0 := cell_keep hB2 CE.out; have CQ := Lib.hid (fun q => CM.out (w1.drewN q) (below_drewN hB2 q))))
            go_quiet ((go_at_call 88; exact Calls.quiet_of_same (CQ.out _)))
            all_goals
              go_wp2_with fail
              go_roundw
              case rel => exact ⟨k + 1 + 1, s + y, by omega, by go_num, rfl, below_drewN hB1 _, HS, HX, by omega, by omega⟩
              case measure => simp [intOf] <;> omega
      · have hbf : balS n g.p = false := decide_eq_false hbal
        have HX : Hid (r = false) := Lib.hid (HRF.out (pile_no_bal (by rw [HN.out]; exact hlt) HG.out hbal))
        rw [hbf] at BC
        have BC := Lib.hid BC
        clear hbf hbal KB
        go_wp2_with (go_at_call 87; ((with_reducible refine BC.out.mono ?_); rintro _ w1 ⟨rfl, hb1⟩; have hB1 := bel2' hbA hb1))
        go_ret
        exact ⟨ret_bb HX.out.symm, hB1⟩
    · have hltz : ¬ (k : Int) < (len : Int) := by omega
      have HX : Hid (r = true) := Lib.hid (HRT.out (by have := hP.out; rwa [List.take_of_length_le (by rw [HN.out]; omega)] at this))
      go_wp2_with fail
      go_ret
      exact ⟨ret_bb HX.out.symm, hbel⟩

end Go.Proofs.Ytbnhgmikegdppaa
