/- Votes of renamed candidates: the plain list, and its row under construction. -/
import Derived.Test.YthplbhgbgcfogaaT23
import Derived.Test.YthplbhgbgcfogaaT24
namespace Go.Proofs.Nums

/-- Of the votes, those of the candidates below k are laid where their new numbers stand. -/
def LaidTo (s : Int → Int) (n k : Nat) (r qs : List Q) : Prop := qs.length = n ∧ ∀ c : Int, 0 ≤ c → c < n → vote qs (s c) = if c < k then vote r c else Q.of 0
theorem LaidTo.start {s : Int → Int} {n : Nat} {r : List Q} (hs : Ren s n) : LaidTo s n 0 r (wholesS (List.replicate n 0)) := by
  refine ⟨by rw [wholes_len, List.length_replicate], fun c h0 h1 => ?_⟩
  have g := hs.rng c h0 h1
  rw [if_neg (by omega), vote_whole (by rw [List.length_replicate]; exact g.2) g.1, List.getD_eq_getElem?_getD, List.getElem?_replicate, if_pos (by omega)]
  rfl
theorem LaidTo.step {s : Int → Int} {n k j : Nat} {r qs : List Q} {q : Q} (hs : Ren s n) (h : LaidTo s n k r qs) (hk : k < n) (hq : r.getD k (Q.of 0) = q) (hj : s k = (j : Int)) : LaidTo s n (k + 1) r (qs.set j q) := by
  have hjn : j < n := by have := (hs.rng k (by omega) (by omega)).2; omega
  refine ⟨by rw [List.length_set]; exact h.1, fun c h0 h1 => ?_⟩
  by_cases e : c = k
  · subst e
    rw [if_pos (by omega), hj]
    unfold vote
    rw [List.getD_eq_getElem?_getD, List.getElem?_set, Int.toNat_natCast, if_pos rfl, if_pos (by rw [h.1]; exact hjn)]
    rw [Int.toNat_natCast, hq]; rfl
  · have hne : s c ≠ (j : Int) := fun g => e (hs.inj c k h0 h1 (by omega) (by omega) (g.trans hj.symm))
    have g := hs.rng c h0 h1
    have hv : vote (qs.set j q) (s c) = vote qs (s c) := by
      unfold vote
      rw [List.getD_eq_getElem?_getD, List.getElem?_set, if_neg (by omega), ← List.getD_eq_getElem?_getD]
    rw [hv, h.2 c h0 h1]
    by_cases hc : c < k
    · rw [if_pos hc, if_pos (by omega)]
    · rw [if_neg hc, if_neg (by omega)]
theorem LaidTo.done {s : Int → Int} {n k : Nat} {r qs : List Q} (h : LaidTo s n k r qs) (hk : n ≤ k ∨ r.length ≤ k) : RowRen s n r qs := by
  intro c h0 h1
  rw [h.2 c h0 h1]
  split
  · rfl
  · unfold vote
    rw [List.getD_eq_getElem?_getD, List.getElem?_eq_none (by omega)]
    rfl
theorem RowsRen.take {P : List Q → List Q → Prop} {M L : List (List Q)} {k : Nat} {r v : List Q} (h : RowsRen P (M.take k) L) (hk : k < M.length) (hr : M.getD k [] = r) (hv : P r v) : RowsRen P (M.take (k + 1)) (L ++ [v]) := by
  have e : M.take (k + 1) = M.take k ++ [r] := by
    rw [List.take_succ_eq_append_getElem hk, ← hr, List.getD_eq_getElem?_getD, List.getElem?_eq_getElem hk]
    rfl
  rw [e]
  exact h.snoc hv

theorem set_flat {α : Type} {k : Nat} {css : List (List α)} (hk : ∀ c ∈ css, c.length = k) {i j : Nat} {c : List α} {u : α} (hi : css[i]? = some c) (hj : j < k) : css.flatten.set (i * k + j) u = (css.set i (c.set j u)).flatten := by
  induction css generalizing i with
  | nil => simp at hi
  | cons d css ih =>
    have hd : d.length = k := hk d (by simp)
    cases i with
    | zero =>
      have e : d = c := by simpa using hi
      subst e
      rw [List.flatten_cons, List.set_cons_zero, List.flatten_cons, Nat.zero_mul, Nat.zero_add, List.set_append_left _ _ (by omega)]
    | succ i =>
      have h2 : css[i]? = some c := by simpa using hi
      rw [List.flatten_cons, List.set_cons_succ, List.flatten_cons, List.set_append_right _ _ (by rw [hd, Nat.add_mul]; omega), hd, show (i + 1) * k + j - k = i * k + j by rw [Nat.add_mul]; omega, ih (fun c hc => hk c (by simp [hc])) h2]

end Go.Proofs.Nums
namespace Go.Proofs.Ythplbhgbgcfogaa
open Go.RowKit Go.Proofs.Kit Go.Proofs.Nums

/-- A row of Ratios that is written: g is its block; its elements are read off blocks below C, or from B on. -/
structure VRow (C B g : Nat) (n : Nat) (w : World) (qs : List Q) (css : List (List Value)) : Prop where
  own : ∃ cap, w.ownsRow B 43 3 (.slice (some ⟨g, 0, none⟩) n cap) n css.flatten
  num : qs.length = n
  len : css.length = n
  siz : ∀ c ∈ css, c.length = 3
  elt : ∀ (i : Nat) (c : List Value) (x : Q), css[i]? = some c → qs[i]? = some x → On (fun b => (b < C ∨ B ≤ b) ∧ b < w.heap.size ∧ b ≠ g) (fun w => ratR w c x) w

theorem VRow.start {B C : Nat} {v : Value} {w : World} {qs : List Q} {css : List (List Value)} {n : Nat} (h : RLst B v w qs css) (hn : qs.length = n) (h0 : 0 < n) : ∃ g cap, v = .slice (some ⟨g, 0, none⟩) n cap ∧ n ≤ cap ∧ cap ≤ 9223372036854775807 ∧ B ≤ g ∧ g < w.heap.size ∧ VRow C B g n w qs css := by
  have ho := h.own
  rw [hn] at ho
  rcases ho.2 with ⟨_, hz⟩ | ⟨g, cap, cur, rfl, hg, hgg, hc, hm, hs, ht⟩
  · omega
  · refine ⟨g, cap, rfl, hc, by unfold maxLen at hm; omega, hg, (Array.getElem?_eq_some_iff.1 hgg).1, ⟨cap, ho⟩, hn, by rw [h.len]; exact hn, h.siz, fun i c x hi hx => ?_⟩
    exact On.mono (h.elt i c x hi hx) fun b hb => ⟨.inr hb.1, hb.2.1, fun e => hb.2.2 (by rw [e]; rfl)⟩

theorem VRow.keep {C B g n : Nat} {w w' : World} {qs : List Q} {css : List (List Value)} (h : VRow C B g n w qs css) (hb : Below w.heap.size w w') : VRow C B g n w' qs css := by
  obtain ⟨⟨cap, ho⟩, h1, h2, h3, h4⟩ := h
  exact ⟨⟨cap, ownsRow_below ho hb⟩, h1, h2, h3, fun i c x hi hx => On.mono (On.step (h4 i c x hi hx) fun b k => hb.block b k.2.1) fun b k => ⟨k.1, Nat.lt_of_lt_of_le k.2.1 hb.size, k.2.2⟩⟩

theorem VRow.lt {C B g n : Nat} {w : World} {qs : List Q} {css : List (List Value)} (h : VRow C B g n w qs css) : B ≤ g ∧ g < w.heap.size := by
  obtain ⟨⟨cap, ho⟩, _⟩ := h
  exact ho.lt g rfl

/-- The cells of the element at j may be written. -/
theorem VRow.cells {C B g n : Nat} {w : World} {qs : List Q} {css : List (List Value)} (h : VRow C B g n w qs css) {j : Nat} (hj : j < n) : ∃ x y z, w.cell? ⟨g, j * 3, none⟩ = some x ∧ w.cell? ⟨g, j * 3 + 1, none⟩ = some y ∧ w.cell? ⟨g, j * 3 + 2, none⟩ = some z ∧ w.frozen? ⟨g, j * 3, none⟩ = false ∧ w.frozen? ⟨g, j * 3 + 1, none⟩ = false ∧ w.frozen? ⟨g, j * 3 + 2, none⟩ = false := by
  obtain ⟨⟨cap, ho⟩, h1, h2, h3, h4⟩ := h
  have hjc : j < css.length := by omega
  have hc := List.getElem?_eq_getElem hjc
  have hl := h3 _ (List.getElem_mem hjc)
  obtain ⟨c, hcc⟩ : ∃ c, css[j] = c := ⟨_, rfl⟩
  rw [hcc] at hc hl
  match c, hl with
  | [x, y, z], _ =>
    refine ⟨x, y, z, ?_, ?_, ?_, ho.frozenAt _, ho.frozenAt _, ho.frozenAt _⟩
    · rw [ho.cellAt (j * 3) (by omega)]; exact flat_at (j := 0) h3 hc rfl
    · rw [ho.cellAt (j * 3 + 1) (by omega)]; exact flat_at (j := 1) h3 hc rfl
    · rw [ho.cellAt (j * 3 + 2) (by omega)]; exact flat_at (j := 2) h3 hc rfl

/-- The element at j is written. -/
theorem VRow.put {C B g n : Nat} {w : World} {qs : List Q} {css : List (List Value)} (h : VRow C B g n w qs css) {j : Nat} (hj : j < n) {x y z : Value} {q : Q} (hCB : C ≤ B) (hq : On (fun b => b < C) (fun w => ratR w [x, y, z] q) w) :
    (∃ css', VRow C B g n (((w.setCell ⟨g, j * 3, none⟩ x).setCell ⟨g, j * 3 + 1, none⟩ y).setCell ⟨g, j * 3 + 2, none⟩ z) (qs.set j q) css') ∧ Below B w (((w.setCell ⟨g, j * 3, none⟩ x).setCell ⟨g, j * 3 + 1, none⟩ y).setCell ⟨g, j * 3 + 2, none⟩ z) := by
  have hlt := h.lt
  have hbw : Below B w (((w.setCell ⟨g, j * 3, none⟩ x).setCell ⟨g, j * 3 + 1, none⟩ y).setCell ⟨g, j * 3 + 2, none⟩ z) := (((Below.refl B w).setCell (p := ⟨g, j * 3, none⟩) hlt.1 _).setCell (p := ⟨g, j * 3 + 1, none⟩) hlt.1 _).setCell (p := ⟨g, j * 3 + 2, none⟩) hlt.1 _
  refine ⟨?_, hbw⟩
  obtain ⟨⟨cap, ho⟩, h1, h2, h3, h4⟩ := h
  have hjc : j < css.length := by omega
  have hc := List.getElem?_eq_getElem hjc
  have hl := h3 _ (List.getElem_mem hjc)
  obtain ⟨c, hcc⟩ : ∃ c, css[j] = c := ⟨_, rfl⟩
  rw [hcc] at hc hl
  have s1 := (ho.stored (j * 3) x).1
  have s2 := (s1.stored (j * 3 + 1) y).1
  have s3 := (s2.stored (j * 3 + 2) z).1
  have hfl : ((css.flatten.set (j * 3) x).set (j * 3 + 1) y).set (j * 3 + 2) z = (css.set j [x, y, z]).flatten := by
    match c, hl with
    | [x0, y0, z0], _ =>
      have e1 := set_flat (u := x) (j := 0) h3 hc (by omega)
      have k1 : ∀ d ∈ css.set j ([x0, y0, z0].set 0 x), d.length = 3 := fun d hd => by
        rcases List.mem_or_eq_of_mem_set hd with g | g
        · exact h3 d g
        · rw [g]; rfl
      have e2 := set_flat (u := y) (j := 1) (i := j) (c := [x, y0, z0]) k1 (by rw [List.getElem?_set_self (by omega)]; rfl) (by omega)
      have k2 : ∀ d ∈ (css.set j ([x0, y0, z0].set 0 x)).set j ([x, y0, z0].set 1 y), d.length = 3 := fun d hd => by
        rcases List.mem_or_eq_of_mem_set hd with g | g
        · exact k1 d g
        · rw [g]; rfl
      have e3 := set_flat (u := z) (j := 2) (i := j) (c := [x, y, z0]) k2 (by rw [List.getElem?_set_self (by rw [List.length_set]; omega)]; rfl) (by omega)
      rw [Nat.add_zero] at e1
      rw [e1, e2, e3, List.set_set, List.set_set]
      rfl
  rw [hfl] at s3
  have hsz : (((w.setCell ⟨g, j * 3, none⟩ x).setCell ⟨g, j * 3 + 1, none⟩ y).setCell ⟨g, j * 3 + 2, none⟩ z).heap.size = w.heap.size := by simp
  have hoff : ∀ b, b ≠ g → (((w.setCell ⟨g, j * 3, none⟩ x).setCell ⟨g, j * 3 + 1, none⟩ y).setCell ⟨g, j * 3 + 2, none⟩ z).heap[b]? = w.heap[b]? := fun b hb => by
    rw [Below.heap_setCell _ _ _ _ hb, Below.heap_setCell _ _ _ _ hb, Below.heap_setCell _ _ _ _ hb]
  refine ⟨css.set j [x, y, z], ⟨cap, s3⟩, by rw [List.length_set]; exact h1, by rw [List.length_set]; exact h2, fun d hd => ?_, fun i d r hi hr => ?_⟩
  · rcases List.mem_or_eq_of_mem_set hd with g | g
    · exact h3 d g
    · rw [g]; rfl
  · by_cases e : i = j
    · subst e
      rw [List.getElem?_set_self (by omega)] at hi hr
      obtain rfl := Option.some.inj hi
      obtain rfl := Option.some.inj hr
      exact On.mono (On.step hq fun b hb => hoff b (by omega)) fun b hb => ⟨.inl hb, by rw [hsz]; omega, by omega⟩
    · rw [List.getElem?_set_ne (fun g => e g.symm)] at hi hr
      exact On.mono (On.step (h4 i d r hi hr) fun b hb => hoff b hb.2.2) fun b hb => ⟨hb.1, by rw [hsz]; exact hb.2.1, hb.2.2⟩

/-- It reads, off blocks below C and from B on. -/
theorem VRow.read {C B g n cap : Nat} {w : World} {qs : List Q} {css : List (List Value)} (h : VRow C B g n w qs css) (hcap : n ≤ cap) (hcm : cap ≤ 9223372036854775807) : On (fun b => (b < C ∨ B ≤ b) ∧ b < w.heap.size) (fun w => RatsAt w (.slice (some ⟨g, 0, none⟩) n cap) qs) w := by
  have hlt := h.lt
  obtain ⟨⟨cap', ho⟩, h1, h2, h3, h4⟩ := h
  subst h1
  intro w' hw
  refine ⟨css, _, cap, rfl, hcap, hcm, fun hh => by simp at hh, h2, h3, fun q hq i c j u hi hj => ?_, fun i c x hi hx => ?_⟩
  · obtain rfl := Option.some.inj hq
    have hf := flat_at h3 hi hj
    have hj3 : j < 3 := by have := (List.getElem?_eq_some_iff.1 hj).1; rw [h3 c (List.mem_of_getElem? hi)] at this; exact this
    have hil : i < qs.length := by have := (List.getElem?_eq_some_iff.1 hi).1; omega
    rw [Addr.add_lit, Nat.zero_add]
    have hcell : w'.cell? ⟨g, i * 3 + j, none⟩ = w.cell? ⟨g, i * 3 + j, none⟩ := World.cell?_of_block (a := ⟨g, i * 3 + j, none⟩) (hw g ⟨.inr hlt.1, hlt.2⟩)
    rw [hcell, ho.cellAt (i * 3 + j) (by omega)]
    exact hf
  · exact h4 i c x hi hx w' fun b hb => hw b ⟨hb.1, hb.2.1⟩

/-- The element at k of a row that stands: its cells, and the blocks that it is read off. -/
theorem RatsAt.cellsOn {w : World} {p : Option Addr} {n c : Nat} {l : List Q} (h : RatsAt w (.slice p n c) l) {k : Nat} (hk : k < l.length) {q : Q} (hq : l.getD k (Q.of 0) = q) :
    ∃ b off p1 l1 k1 p2 l2 k2, p = some ⟨b, off, none⟩ ∧ l.length ≤ c ∧ c ≤ 9223372036854775807 ∧ On (fun b => b < w.heap.size) (fun w => ratR w [.bool false, .slice p1 l1 k1, .slice p2 l2 k2] q) w ∧
      w.cell? ⟨b, off + k * 3, none⟩ = some (.bool false) ∧ w.cell? ⟨b, off + k * 3 + 1, none⟩ = some (.slice p1 l1 k1) ∧ w.cell? ⟨b, off + k * 3 + 2, none⟩ = some (.slice p2 l2 k2) := by
  obtain ⟨b, off, p1, l1, k1, p2, l2, k2, rfl, h1, h2, h3, h4, c0, c1, c2⟩ := h.cellsAt hk hq
  exact ⟨b, off, p1, l1, k1, p2, l2, k2, rfl, h1, h2, On.mono (ratR_made (B := 0) h3 h4 (fun _ _ => Nat.zero_le _) (fun _ _ => Nat.zero_le _)) fun b hb => hb.2, c0, c1, c2⟩

/-- Both ties are broken alike, but for the names. -/
theorem ren_pack {vt vl : Value} {who : List Int} {code names rule : Int} {n : Nat} {w : World} (ht : IntsAt w vt (tiedS n who)) (hl : IntsAt w vl (permS n code)) (h1 : 1 ≤ n) (h7 : n ≤ 7) (r1 : 1 ≤ rule) (r2 : rule ≤ 3) (least : Bool) {M M' : List (List Q)} (hs : ∀ r ∈ M, Shs r) (hr : RowsRen (RowRen (sig n names) n) M M') :
    ∃ x : Nat, ∃ b y, x < n ∧ (permS n names).getD x 0 = y ∧ (∀ w' vM, Below w.heap.size w w' → RoundsAt w' vM M → Calls Try.prog 13 #[.int .i64 rule, vM, vt, vl, .bool least] w' fun e w'' => e = .returned (.tuple #[.int .i64 x, .bool b]) ∧ Below w'.heap.size w' w'') ∧
      (∀ w' vM vt' vl', RoundsAt w' vM M' → IntsAt w' vt' (risingS (renameS (tiedS n who) (permS n names))) → IntsAt w' vl' (renameS (permS n code) (permS n names)) → Calls Try.prog 13 #[.int .i64 rule, vM, vt', vl', .bool least] w' fun e w'' => e = .returned (.tuple #[.int .i64 y, .bool b]) ∧ Below w'.heap.size w' w'') := by
  have v := made_valid h1 h7 who code (rule := rule) r1 r2
  have hbal := ((valid_eq _ _ _).1 v).2.2.2.1
  rw [perm_len] at hbal
  have v' := ren_valid h7 (names := names) (perm_len n code) v
  have hm := hbal.1 _ (break_mem (least := least) v hs)
  obtain ⟨x, hx⟩ : ∃ x : Nat, (breakS rule M (tiedS n who) (permS n code) least).1 = x := ⟨(breakS rule M (tiedS n who) (permS n code) least).1.toNat, by omega⟩
  have hb := break_ren (sig_ren n names) (least := least) v v' (perm_len n code) hr hs (ren_tied h7 hbal)
  rw [← rename_eq] at hb
  refine ⟨x, (breakS rule M (tiedS n who) (permS n code) least).2, _, by omega, rfl, fun w' vM hbw hM => ?_, fun w' vM vt' vl' hM h2 h3 => ?_⟩
  · rw [← hx]
    exact tbreak_c hM (ht.keep hbw) (hl.keep hbw) rule least
  · have := tbreak_c hM h2 h3 rule least
    rw [hb, hx] at this
    exact this

end Go.Proofs.Ythplbhgbgcfogaa
