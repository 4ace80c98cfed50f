/- The plain law of ties: candidates renamed. -/
import Derived.Test.YthplbhgbgcfogaaT22
namespace Go.Proofs.Nums

/-- s carries 0 .. n-1 into itself, each to another. -/
structure Ren (s : Int → Int) (n : Nat) : Prop where
  rng : ∀ c : Int, 0 ≤ c → c < n → 0 ≤ s c ∧ s c < n
  inj : ∀ a b : Int, 0 ≤ a → a < n → 0 ≤ b → b < n → s a = s b → a = b
def RowRen (s : Int → Int) (n : Nat) (v v' : List Q) : Prop := ∀ c : Int, 0 ≤ c → c < n → vote v' (s c) = vote v c
def RowsRen (P : List Q → List Q → Prop) : List (List Q) → List (List Q) → Prop
  | [], [] => True
  | v :: vs, v' :: vs' => P v v' ∧ RowsRen P vs vs'
  | _, _ => False
theorem RowsRen.snoc {P : List Q → List Q → Prop} {a b : List (List Q)} {v v' : List Q} (h : RowsRen P a b) (hv : P v v') : RowsRen P (a ++ [v]) (b ++ [v']) := by
  induction a generalizing b with
  | nil =>
    cases b with
    | nil => exact ⟨hv, trivial⟩
    | cons x b => exact absurd h (by simp [RowsRen])
  | cons x a ih =>
    cases b with
    | nil => exact absurd h (by simp [RowsRen])
    | cons y b => exact ⟨h.1, ih h.2⟩
theorem RowsRen.rev {P : List Q → List Q → Prop} {a b : List (List Q)} (h : RowsRen P a b) : RowsRen P a.reverse b.reverse := by
  induction a generalizing b with
  | nil =>
    cases b with
    | nil => trivial
    | cons x b => exact absurd h (by simp [RowsRen])
  | cons x a ih =>
    cases b with
    | nil => exact absurd h (by simp [RowsRen])
    | cons y b =>
      rw [List.reverse_cons, List.reverse_cons]
      exact (ih h.2).snoc h.1
theorem RowsRen.rounds {P : List Q → List Q → Prop} {a b : List (List Q)} (h : RowsRen P a b) (rule : Int) : RowsRen P (roundsS rule a) (roundsS rule b) := by
  unfold roundsS
  split
  · trivial
  · split
    · exact h.rev
    · exact h
theorem extA_ren {lt lt' : Int → Int → Bool} {s : Int → Int} {l l' : List Int} (hp : l'.Perm (l.map s)) (h : ∀ a ∈ l, ∀ b ∈ l, lt' (s a) (s b) = lt a b) : (extA lt' l').Perm ((extA lt l).map s) := by
  unfold extA
  refine (hp.filter _).trans ?_
  rw [List.filter_map]
  have e : l.filter ((fun c => l'.all fun k => !lt' k c) ∘ s) = l.filter (fun c => l.all fun k => !lt k c) := by
    refine List.filter_congr fun c hc => ?_
    simp only [Function.comp]
    rw [Bool.eq_iff_iff, List.all_eq_true, List.all_eq_true]
    constructor
    · intro g k hk
      have := g (s k) (hp.mem_iff.2 (List.mem_map_of_mem hk))
      rw [h k hk c hc] at this
      exact this
    · intro g k hk
      obtain ⟨k', hk', rfl⟩ := List.mem_map.1 (hp.mem_iff.1 hk)
      rw [h k' hk' c hc]
      exact g k' hk'
  rw [e]
theorem leftS_ren {s : Int → Int} {n : Nat} {least : Bool} {vs vs' : List (List Q)} (hr : RowsRen (RowRen s n) vs vs') {l l' : List Int} (hp : l'.Perm (l.map s)) (hl : ∀ c ∈ l, 0 ≤ c ∧ c < n) : (leftS least vs' l').Perm ((leftS least vs l).map s) := by
  induction vs generalizing vs' l l' with
  | nil =>
    cases vs' with
    | nil => exact hp
    | cons y b => exact absurd hr (by simp [RowsRen])
  | cons v vs ih =>
    cases vs' with
    | nil => exact absurd hr (by simp [RowsRen])
    | cons v' vs' =>
      have hlen : l'.length = l.length := by rw [hp.length_eq, List.length_map]
      unfold leftS
      rw [hlen]
      split
      · refine ih hr.2 (extA_ren hp fun a ha b hb => ?_) (fun c hc => hl c (extA_sub.subset hc))
        have ga := hl a ha
        have gb := hl b hb
        unfold ltV
        rw [hr.1 a ga.1 ga.2, hr.1 b gb.1 gb.2]
      · exact ih hr.2 hp hl
theorem place_ren {s : Int → Int} {lots : List Int} {c : Int} (h : ∀ y ∈ lots, s y = s c → y = c) : placeN (lots.map s) (s c) = placeN lots c := by
  induction lots with
  | nil => rfl
  | cons y l ih =>
    rw [List.map_cons]
    unfold placeN
    by_cases e : y = c
    · subst e
      rw [if_pos rfl, if_pos rfl]
    · rw [if_neg e, if_neg (fun g => e (h y (by simp) g)), ih (fun z hz => h z (List.mem_cons_of_mem _ hz))]
theorem pick_ren {s : Int → Int} {n : Nat} (hs : Ren s n) {lots l l' : List Int} {least : Bool} (hlots : ∀ c ∈ lots, 0 ≤ c ∧ c < n) (hp : l'.Perm (l.map s)) (hne : l ≠ []) (hsub : ∀ x ∈ l, x ∈ lots) : pickS (lots.map s) least l' = s (pickS lots least l) := by
  have hne' : l' ≠ [] := fun e => by
    rw [e] at hp
    have := hp.length_eq
    simp at this
    exact hne (List.eq_nil_of_length_eq_zero this.symm)
  have hpl : ∀ c, c ∈ lots → placeN (lots.map s) (s c) = placeN lots c := fun c hc => place_ren fun y hy e => by
    have g1 := hlots y hy
    have g2 := hlots c hc
    exact hs.inj _ _ g1.1 g1.2 g2.1 g2.2 e
  have hm' := pick_mem (lots := lots.map s) (least := least) hne'
  have hf' := pick_far (lots := lots.map s) (least := least) hne'
  have hm := pick_mem (lots := lots) (least := least) hne
  have hf := pick_far (lots := lots) (least := least) hne
  obtain ⟨z, hz, ez⟩ := List.mem_map.1 (hp.mem_iff.1 hm')
  rw [← ez] at hf' ⊢
  have hzl := hsub z hz
  have hpl' := hsub _ hm
  congr 1
  refine place_inj hzl hpl' ?_
  have f1 := hf z hz
  have f2 := hf' (s (pickS lots least l)) (hp.mem_iff.2 (List.mem_map_of_mem hm))
  rw [hpl _ hzl, hpl _ hpl'] at f2
  cases least
  · simp at f1 f2; omega
  · simp at f1 f2; omega
/-- The choice is renamed with the candidates. -/
theorem break_ren {s : Int → Int} {n : Nat} (hs : Ren s n) {rule : Int} {M M' : List (List Q)} {t t' lots : List Int} {least : Bool} (hv : validS rule t lots = true) (hv' : validS rule t' (lots.map s) = true) (hn : lots.length = n) (hr : RowsRen (RowRen s n) M M') (hsh : ∀ r ∈ M, Shs r) (hp : t'.Perm (t.map s)) :
    breakS rule M' t' (lots.map s) least = (s (breakS rule M t lots least).1, (breakS rule M t lots least).2) := by
  obtain ⟨_, hbl, hne, hbt, _⟩ := (valid_eq _ _ _).1 hv
  rw [hn] at hbl hbt
  have hr2 : ∀ v ∈ roundsS rule M, Shs v := by
    intro v h
    unfold roundsS at h
    split at h
    · simp at h
    · split at h
      · exact hsh v (List.mem_reverse.1 h)
      · exact hsh v h
  have key := leftS_ren (least := least) (hr.rounds rule) hp hbt.1
  have hne2 := leftS_ne least hr2 hne
  have hsub := (leftS_sub least (roundsS rule M) t).subset
  rw [break_valid hv, break_valid hv']
  obtain ⟨l, hl⟩ : ∃ l, leftS least (roundsS rule M) t = l := ⟨_, rfl⟩
  obtain ⟨l', hl'⟩ : ∃ l, leftS least (roundsS rule M') t' = l := ⟨_, rfl⟩
  rw [hl] at key hne2 hsub ⊢
  rw [hl'] at key ⊢
  have hlen : l'.length = l.length := by rw [key.length_eq, List.length_map]
  rw [hlen]
  split
  · rename_i h1
    obtain ⟨a, rfl⟩ := List.length_eq_one_iff.1 h1
    obtain ⟨b, rfl⟩ := List.length_eq_one_iff.1 (hlen.trans h1)
    have := key.mem_iff (a := b)
    simp at this
    simp [this]
  · rw [pick_ren hs hbl.1 key hne2 (fun x hx => by
      have hx := hsub hx
      have h1 := hbt.1 x hx
      exact bal_mem (by rw [hn]; exact hbl) h1.1 (by rw [hn]; exact h1.2))]

/-- Renaming by a permutation. -/
def sig (n : Nat) (code : Int) (c : Int) : Int := (permS n code).getD c.toNat 0
theorem sig_ren (n : Nat) (code : Int) : Ren (sig n code) n := by
  have hl := perm_len n code
  refine ⟨fun (c : Int) h0 h1 => ?_, fun (a b : Int) a0 a1 b0 b1 e => ?_⟩
  · exact perm_mem.1 (mem_getD (k := c.toNat) (by omega) rfl)
  · unfold sig at e
    have ha : a.toNat < (permS n code).length := by omega
    have hb : b.toNat < (permS n code).length := by omega
    rw [List.getD_eq_getElem?_getD, List.getD_eq_getElem?_getD, List.getElem?_eq_getElem ha, List.getElem?_eq_getElem hb] at e
    have := (List.getElem_inj (perm_nodup n code)).1 (show (permS n code)[a.toNat] = (permS n code)[b.toNat] from e)
    omega
theorem rename_eq (l : List Int) (n : Nat) (code : Int) : renameS l (permS n code) = l.map (sig n code) := rfl
theorem ren_nodup {s : Int → Int} {n : Nat} (hs : Ren s n) {l : List Int} (h : BalP n l) : (l.map s).Nodup := by
  have hb := h.1
  have hn := h.2
  clear h
  induction l with
  | nil => exact List.nodup_nil
  | cons a t ih =>
    rw [List.nodup_cons] at hn
    rw [List.map_cons, List.nodup_cons]
    refine ⟨fun hm => ?_, ih (fun c hc => hb c (List.mem_cons_of_mem _ hc)) hn.2⟩
    obtain ⟨b, hbm, e⟩ := List.mem_map.1 hm
    have g1 := hb a (by simp)
    have g2 := hb b (List.mem_cons_of_mem _ hbm)
    exact hn.1 (by rw [← hs.inj b a g2.1 g2.2 g1.1 g1.2 e]; exact hbm)
theorem ren_tied {n : Nat} (h7 : n ≤ 7) {names : Int} {t : List Int} (h : BalP n t) : (risingS (renameS t (permS n names))).Perm (t.map (sig n names)) := by
  have hs := sig_ren n names
  refine (List.perm_ext_iff_of_nodup ((rising_sorted _).imp fun g => by omega) (ren_nodup hs h)).2 fun x => ?_
  rw [mem_rising, rename_eq]
  constructor
  · exact fun g => g.2.2
  · intro g
    obtain ⟨c, hc, rfl⟩ := List.mem_map.1 g
    have h1 := h.1 c hc
    have h2 := hs.rng c h1.1 h1.2
    exact ⟨h2.1, by omega, g⟩
theorem ren_valid {n : Nat} (h7 : n ≤ 7) {names rule : Int} {t lots : List Int} (hn : lots.length = n) (hv : validS rule t lots = true) : validS rule (risingS (renameS t (permS n names))) (renameS lots (permS n names)) = true := by
  obtain ⟨hr, hbl, hne, hbt, hsrt⟩ := (valid_eq _ _ _).1 hv
  rw [hn] at hbl hbt hr
  have hs := sig_ren n names
  have hp := ren_tied h7 (names := names) hbt
  rw [valid_eq, rename_eq lots, List.length_map, hn]
  refine ⟨hr, ⟨fun c hc => ?_, ren_nodup hs hbl⟩, fun e => ?_, ⟨fun c hc => ?_, (rising_sorted _).imp fun g => by omega⟩, rising_sorted _⟩
  · obtain ⟨y, hy, rfl⟩ := List.mem_map.1 hc
    have h1 := hbl.1 y hy
    exact hs.rng y h1.1 h1.2
  · rw [e] at hp
    have := hp.length_eq
    simp at this
    exact hne (List.eq_nil_of_length_eq_zero this.symm)
  · obtain ⟨y, hy, rfl⟩ := List.mem_map.1 (hp.mem_iff.1 hc)
    have h1 := hbt.1 y hy
    exact hs.rng y h1.1 h1.2

end Go.Proofs.Nums
