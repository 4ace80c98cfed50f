/- The plain laws of ties. -/
import Derived.Test.YthplbhgbgcfogaaT18
namespace Go.Proofs.Nums

theorem perm_len (n : Nat) (code : Int) : (permS n code).length = n := by
  rw [(permS_perm n code).length_eq]; simp
theorem perm_mem {n : Nat} {code x : Int} : x ∈ permS n code ↔ 0 ≤ x ∧ x < n := by
  rw [(permS_perm n code).mem_iff, List.mem_map]
  constructor
  · rintro ⟨i, hi, rfl⟩
    have := List.mem_range.1 hi
    omega
  · rintro ⟨h0, h1⟩
    exact ⟨x.toNat, List.mem_range.2 (by omega), by omega⟩
theorem perm_nodup (n : Nat) (code : Int) : (permS n code).Nodup := by
  rw [(permS_perm n code).nodup_iff]
  exact List.Pairwise.map (R := fun a b => a ≠ b) _ (fun a b h => by omega) List.nodup_range
theorem perm_bal (n : Nat) (code : Int) : BalP n (permS n code) := ⟨fun _ h => perm_mem.1 h, perm_nodup n code⟩
theorem tied_bal {n : Nat} (h1 : 1 ≤ n) (l : List Int) : BalP n (tiedS n l) ∧ tiedS n l ≠ [] ∨ 12 < n := by
  by_cases h2 : 12 < n
  · exact .inr h2
  left
  obtain ⟨g1, g2, g3⟩ := ballot_ok (n := (n : Int)) (by omega) (((n : Int) - 1) :: l.take 7)
  refine ⟨⟨fun c hc => ?_, ?_⟩, fun e => ?_⟩
  · have := mem_rising.1 hc
    exact g2 c this.2.2
  · exact (rising_sorted _).imp fun h => by omega
  · have hne := g3 (by simp)
    obtain ⟨c, t, ec⟩ := List.exists_cons_of_ne_nil hne
    have hm : c ∈ ballotS n (((n : Int) - 1) :: l.take 7) := by rw [ec]; simp
    have hb := g2 c hm
    have : c ∈ tiedS n l := mem_rising.2 ⟨hb.1, by omega, hm⟩
    rw [e] at this
    simp at this
/-- What a law makes is valid. -/
theorem made_valid {n : Nat} (h1 : 1 ≤ n) (h2 : n ≤ 7) (who : List Int) (code : Int) {rule : Int} (r1 : 1 ≤ rule) (r2 : rule ≤ 3) : validS rule (tiedS n who) (permS n code) = true := by
  rw [valid_eq, perm_len]
  rcases tied_bal h1 who with ⟨g1, g2⟩ | g
  · exact ⟨⟨r1, r2, h1, h2⟩, perm_bal n code, g2, g1, rising_sorted _⟩
  · omega
theorem break_valid {rule : Int} {M : List (List Q)} {tied lots : List Int} {least : Bool} (hv : validS rule tied lots = true) :
    breakS rule M tied lots least = if (leftS least (roundsS rule M) tied).length = 1 then ((leftS least (roundsS rule M) tied).headD 0, false) else (pickS lots least (leftS least (roundsS rule M) tied), true) := by
  unfold breakS
  rw [if_pos hv]
theorem head_mem {l : List Int} (h : l ≠ []) : l.headD 0 ∈ l := by
  cases l with
  | nil => exact absurd rfl h
  | cons a t => simp
theorem break_mem {rule : Int} {M : List (List Q)} {tied lots : List Int} {least : Bool} (hv : validS rule tied lots = true) (hs : ∀ v ∈ M, Shs v) : (breakS rule M tied lots least).1 ∈ tied := by
  rw [break_valid hv]
  have hne : tied ≠ [] := ((valid_eq _ _ _).1 hv).2.2.1
  have hr : ∀ v ∈ roundsS rule M, Shs v := by
    intro v h
    unfold roundsS at h
    split at h
    · simp at h
    · split at h
      · exact hs v (List.mem_reverse.1 h)
      · exact hs v h
  have hl := leftS_ne least hr hne
  have hsub := (leftS_sub least (roundsS rule M) tied).subset
  split
  · exact hsub (head_mem hl)
  · exact hsub (pick_mem hl)
/-- Backwards is forwards over the rounds turned round. -/
theorem break_rev {M : List (List Q)} {tied lots : List Int} {least : Bool} (hv1 : validS 1 tied lots = true) (hv2 : validS 2 tied lots = true) : breakS 1 M tied lots least = breakS 2 M.reverse tied lots least := by
  rw [break_valid hv1, break_valid hv2]
  rfl
/-- By lot. -/
theorem break_lot {M : List (List Q)} {tied lots : List Int} {least : Bool} (hv : validS 3 tied lots = true) : breakS 3 M tied lots least = (pickS lots least tied, decide (1 < tied.length)) := by
  rw [break_valid hv]
  have hne : tied ≠ [] := ((valid_eq _ _ _).1 hv).2.2.1
  have h0 : 0 < tied.length := List.length_pos_iff.2 hne
  show (if tied.length = 1 then (tied.headD 0, false) else (pickS lots least tied, true)) = _
  by_cases h1 : tied.length = 1
  · rw [if_pos h1]
    obtain ⟨a, rfl⟩ := List.length_eq_one_iff.1 h1
    rfl
  · rw [if_neg h1, decide_eq_true (by omega)]
/-- The place picked: none is beyond it. -/
theorem pick_best {lots : List Int} {least : Bool} : ∀ (t : List Int) (a : Int), ∀ y ∈ a :: t, if least then placeN lots y ≤ placeN lots (t.foldl (pickStep lots least) a) else placeN lots (t.foldl (pickStep lots least) a) ≤ placeN lots y := by
  intro t
  induction t with
  | nil =>
    intro a y hy
    rw [List.mem_singleton.1 hy]
    split <;> exact Nat.le_refl _
  | cons b t ih =>
    intro a y hy
    simp only [List.foldl_cons]
    have key := ih (pickStep lots least a b)
    have hself := key _ (List.mem_cons_self ..)
    have hstep : ∀ z, z = a ∨ z = b → if least then placeN lots z ≤ placeN lots (pickStep lots least a b) else placeN lots (pickStep lots least a b) ≤ placeN lots z := by
      intro z hz
      cases least
      · by_cases hd : placeN lots a < placeN lots b
        · have e : pickStep lots false a b = a := by unfold pickStep; rw [if_neg (by simp [hd])]
          rw [e]
          rcases hz with rfl | rfl <;> simp <;> omega
        · have e : pickStep lots false a b = b := by unfold pickStep; rw [if_pos (by simp [hd])]
          rw [e]
          rcases hz with rfl | rfl <;> simp <;> omega
      · by_cases hd : placeN lots a < placeN lots b
        · have e : pickStep lots true a b = b := by unfold pickStep; rw [if_pos (by simp [hd])]
          rw [e]
          rcases hz with rfl | rfl <;> simp <;> omega
        · have e : pickStep lots true a b = a := by unfold pickStep; rw [if_neg (by simp [hd])]
          rw [e]
          rcases hz with rfl | rfl <;> simp <;> omega
    by_cases hy2 : y = a ∨ y = b
    · have h1 := hstep y hy2
      cases least <;> simp at h1 hself ⊢ <;> omega
    · exact key y (by
        rcases List.mem_cons.1 hy with g | g
        · exact absurd (.inl g) hy2
        · rcases List.mem_cons.1 g with g | g
          · exact absurd (.inr g) hy2
          · exact List.mem_cons_of_mem _ g)
theorem pick_far {lots tied : List Int} {least : Bool} (_hne : tied ≠ []) : ∀ y ∈ tied, if least then placeN lots y ≤ placeN lots (pickS lots least tied) else placeN lots (pickS lots least tied) ≤ placeN lots y := by
  cases tied with
  | nil => intro y hy; simp at hy
  | cons a t => exact pick_best t a
theorem place_inj {l : List Int} {x y : Int} (hx : x ∈ l) (hy : y ∈ l) (h : placeN l x = placeN l y) : x = y := by
  induction l with
  | nil => simp at hx
  | cons a t ih =>
    unfold placeN at h
    by_cases h1 : a = x
    · by_cases h2 : a = y
      · rw [← h1, ← h2]
      · rw [if_pos h1, if_neg h2] at h; omega
    · by_cases h2 : a = y
      · rw [if_neg h1, if_pos h2] at h; omega
      · rw [if_neg h1, if_neg h2] at h
        refine ih ?_ ?_ (by omega)
        · rcases List.mem_cons.1 hx with g | g
          · exact absurd g.symm h1
          · exact g
        · rcases List.mem_cons.1 hy with g | g
          · exact absurd g.symm h2
          · exact g
theorem place_app {l m : List Int} {x : Int} (h : x ∈ l) : placeN (l ++ m) x = placeN l x := by
  induction l with
  | nil => simp at h
  | cons a t ih =>
    rw [List.cons_append]
    unfold placeN
    by_cases h1 : a = x
    · rw [if_pos h1, if_pos h1]
    · rw [if_neg h1, if_neg h1, ih (by
        rcases List.mem_cons.1 h with g | g
        · exact absurd g.symm h1
        · exact g)]
theorem place_lt {l : List Int} {x : Int} (h : x ∈ l) : placeN l x < l.length := by
  induction l with
  | nil => simp at h
  | cons a t ih =>
    unfold placeN
    by_cases h1 : a = x
    · rw [if_pos h1]; simp
    · rw [if_neg h1]
      have := ih (by
        rcases List.mem_cons.1 h with g | g
        · exact absurd g.symm h1
        · exact g)
      simp; omega
/-- The last and the first that are among the tied ones. -/
def lastS (tied : List Int) (l : List Int) : Int := ((l.filter fun c => hasB tied c).getLast?).getD (-1)
def firstS (tied : List Int) (l : List Int) : Int := (l.filter fun c => hasB tied c).headD (-1)
theorem last_snoc {tied l : List Int} {k : Nat} {y : Int} (h : k < l.length) (hy : l.getD k 0 = y) : lastS tied (l.take (k + 1)) = if hasB tied y then y else lastS tied (l.take k) := by
  unfold lastS
  rw [filter_snoc_i h hy]
  split
  · simp
  · simp
theorem first_snoc {tied l : List Int} {k : Nat} {y : Int} (h : k < l.length) (hy : l.getD k 0 = y) (h0 : ∀ x ∈ tied, 0 ≤ x) : firstS tied (l.take (k + 1)) = if hasB tied y then (if firstS tied (l.take k) < 0 then y else firstS tied (l.take k)) else firstS tied (l.take k) := by
  unfold firstS
  rw [filter_snoc_i h hy]
  cases hh : hasB tied y
  · simp
  · rw [if_pos rfl, if_pos rfl]
    cases hf : (l.take k).filter fun c => hasB tied c with
    | nil => simp
    | cons a t =>
      have ha : a ∈ (l.take k).filter fun c => hasB tied c := by rw [hf]; simp
      have := h0 a (hasB_true.1 (List.mem_filter.1 ha).2)
      simp
      intro h3
      omega
theorem place_take {l : List Int} {k : Nat} {y : Int} (h : k ≤ l.length) (hy : y ∈ l.take k) : placeN l y < k := by
  have h1 : placeN (l.take k ++ l.drop k) y = placeN (l.take k) y := place_app hy
  rw [List.take_append_drop] at h1
  rw [h1]
  have := place_lt hy
  rw [List.length_take] at this
  omega
theorem nodup_fresh {l : List Int} (hn : l.Nodup) {k : Nat} {y : Int} (h : k < l.length) (hy : l.getD k 0 = y) : y ∉ l.take k := by
  have h2 := hn.sublist (List.take_sublist (k + 1) l)
  rw [take_snoc_i h, hy, List.nodup_append] at h2
  intro hm
  exact h2.2.2 y hm y (by simp) rfl
theorem last_inv {tied lots : List Int} (hn : lots.Nodup) : ∀ k, k ≤ lots.length → ((∀ y ∈ lots.take k, y ∉ tied) ∧ lastS tied (lots.take k) = -1) ∨ (lastS tied (lots.take k) ∈ tied ∧ lastS tied (lots.take k) ∈ lots.take k ∧ ∀ y ∈ lots.take k, y ∈ tied → placeN lots y ≤ placeN lots (lastS tied (lots.take k))) := by
  intro k
  induction k with
  | zero => intro _; exact .inl ⟨fun y hy => by simp at hy, by simp [lastS]⟩
  | succ k ih =>
    intro hk
    obtain ⟨y, hy⟩ : ∃ y, lots.getD k 0 = y := ⟨_, rfl⟩
    have hp := placeN_at (by omega) (nodup_fresh hn (by omega) hy) hy
    rw [last_snoc (by omega) hy, take_snoc_i (by omega), hy]
    have ih := ih (by omega)
    by_cases ht : y ∈ tied
    · rw [if_pos (hasB_true.2 ht)]
      refine .inr ⟨ht, by simp, fun z hz _ => ?_⟩
      rcases List.mem_append.1 hz with g | g
      · have := place_take (by omega) g; omega
      · rw [List.mem_singleton.1 g]; exact Nat.le_refl _
    · rw [if_neg (fun g => ht (hasB_true.1 g))]
      rcases ih with ⟨h1, h2⟩ | ⟨h1, h2, h3⟩
      · refine .inl ⟨fun z hz => ?_, h2⟩
        rcases List.mem_append.1 hz with g | g
        · exact h1 z g
        · rw [List.mem_singleton.1 g]; exact ht
      · refine .inr ⟨h1, List.mem_append_left _ h2, fun z hz hzt => ?_⟩
        rcases List.mem_append.1 hz with g | g
        · exact h3 z g hzt
        · rw [List.mem_singleton.1 g] at hzt; exact absurd hzt ht
theorem first_inv {tied lots : List Int} (hn : lots.Nodup) (h0 : ∀ x ∈ tied, 0 ≤ x) : ∀ k, k ≤ lots.length → ((∀ y ∈ lots.take k, y ∉ tied) ∧ firstS tied (lots.take k) = -1) ∨ (firstS tied (lots.take k) ∈ tied ∧ firstS tied (lots.take k) ∈ lots.take k ∧ ∀ y ∈ lots.take k, y ∈ tied → placeN lots (firstS tied (lots.take k)) ≤ placeN lots y) := by
  intro k
  induction k with
  | zero => intro _; exact .inl ⟨fun y hy => by simp at hy, by simp [firstS]⟩
  | succ k ih =>
    intro hk
    obtain ⟨y, hy⟩ : ∃ y, lots.getD k 0 = y := ⟨_, rfl⟩
    have hp := placeN_at (by omega) (nodup_fresh hn (by omega) hy) hy
    rw [first_snoc (by omega) hy h0, take_snoc_i (by omega), hy]
    have ih := ih (by omega)
    by_cases ht : y ∈ tied
    · rw [if_pos (hasB_true.2 ht)]
      rcases ih with ⟨h1, h2⟩ | ⟨h1, h2, h3⟩
      · rw [if_pos (by rw [h2]; decide)]
        refine .inr ⟨ht, by simp, fun z hz hzt => ?_⟩
        rcases List.mem_append.1 hz with g | g
        · exact absurd hzt (h1 z g)
        · rw [List.mem_singleton.1 g]; exact Nat.le_refl _
      · rw [if_neg (by have := h0 _ h1; omega)]
        refine .inr ⟨h1, List.mem_append_left _ h2, fun z hz hzt => ?_⟩
        rcases List.mem_append.1 hz with g | g
        · exact h3 z g hzt
        · rw [List.mem_singleton.1 g, hp]
          exact Nat.le_of_lt (place_take (by omega) h2)
    · rw [if_neg (fun g => ht (hasB_true.1 g))]
      rcases ih with ⟨h1, h2⟩ | ⟨h1, h2, h3⟩
      · refine .inl ⟨fun z hz => ?_, h2⟩
        rcases List.mem_append.1 hz with g | g
        · exact h1 z g
        · rw [List.mem_singleton.1 g]; exact ht
      · refine .inr ⟨h1, List.mem_append_left _ h2, fun z hz hzt => ?_⟩
        rcases List.mem_append.1 hz with g | g
        · exact h3 z g hzt
        · rw [List.mem_singleton.1 g] at hzt; exact absurd hzt ht
theorem last_pick {tied lots : List Int} (hn : lots.Nodup) (hne : tied ≠ []) (hsub : ∀ x ∈ tied, x ∈ lots) : pickS lots true tied = lastS tied lots := by
  have hm := pick_mem (lots := lots) (least := true) hne
  have hf := pick_far (lots := lots) (least := true) hne
  simp only [if_true] at hf
  have hi := last_inv (tied := tied) hn lots.length (Nat.le_refl _)
  rw [List.take_length] at hi
  rcases hi with ⟨h1, _⟩ | ⟨h1, h2, h3⟩
  · exact absurd hm (h1 _ (hsub _ hm))
  · exact place_inj (hsub _ hm) h2 (Nat.le_antisymm (h3 _ (hsub _ hm) hm) (hf _ h1))
theorem first_pick {tied lots : List Int} (hn : lots.Nodup) (h0 : ∀ x ∈ tied, 0 ≤ x) (hne : tied ≠ []) (hsub : ∀ x ∈ tied, x ∈ lots) : pickS lots false tied = firstS tied lots := by
  have hm := pick_mem (lots := lots) (least := false) hne
  have hf := pick_far (lots := lots) (least := false) hne
  simp only [Bool.false_eq_true, if_false] at hf
  have hi := first_inv (tied := tied) hn h0 lots.length (Nat.le_refl _)
  rw [List.take_length] at hi
  rcases hi with ⟨h1, _⟩ | ⟨h1, h2, h3⟩
  · exact absurd hm (h1 _ (hsub _ hm))
  · exact place_inj (hsub _ hm) h2 (Nat.le_antisymm (hf _ h1) (h3 _ (hsub _ hm) hm))
/-- One that is strictly ahead is all that is left. -/
theorem ext_one {lt : Int → Int → Bool} {l : List Int} {x : Int} (hx : x ∈ l) (hn : l.Nodup) (hirr : ∀ a, lt a a = false) (h : ∀ y ∈ l, y ≠ x → lt x y = true) (hb : ∀ y ∈ l, y ≠ x → lt y x = false) : extA lt l = [x] := by
  have hmem : ∀ c, c ∈ extA lt l ↔ c = x := by
    intro c
    rw [mem_extA]
    constructor
    · rintro ⟨h1, h2⟩
      refine Classical.byContradiction fun hc => ?_
      have := h2 x hx
      rw [h c h1 hc] at this
      cases this
    · rintro rfl
      refine ⟨hx, fun k hk => ?_⟩
      by_cases hkc : k = c
      · rw [hkc]; exact hirr c
      · exact hb k hk hkc
  have hnd : (extA lt l).Nodup := hn.sublist extA_sub
  cases he : extA lt l with
  | nil => rw [he] at hmem; have := (hmem x).2 rfl; simp at this
  | cons a t =>
    rw [he] at hmem hnd
    have ha := (hmem a).1 (by simp)
    subst ha
    cases t with
    | nil => rfl
    | cons b t =>
      have hb := (hmem b).1 (by simp)
      subst hb
      simp at hnd
theorem left_one {least : Bool} {v : List Q} {vs : List (List Q)} {tied : List Int} {x : Int} (hx : x ∈ tied) (hn : tied.Nodup) (hirr : ∀ a, ltV v least a a = false) (h : ∀ y ∈ tied, y ≠ x → ltV v least x y = true) (hb : ∀ y ∈ tied, y ≠ x → ltV v least y x = false) : leftS least (v :: vs) tied = [x] := by
  have hl : leftS least vs [x] = [x] := leftS_one _ _ (by simp)
  unfold leftS
  split
  · rw [ext_one hx hn hirr h hb, hl]
  · rename_i h1
    have : tied = [x] := by
      cases tied with
      | nil => simp at hx
      | cons a t =>
        cases t with
        | nil => rw [List.mem_singleton.1 hx]
        | cons b t => simp at h1
    rw [this, hl]

end Go.Proofs.Nums
