/- A text that ends inside a definition: both parses, side by side. -/
import Derived.Test.YthdcgplocdehjaaHf
namespace Go.Proofs.Ythdcgplocdehjaa
open Go.RowKit Go.Proofs.Kit

/-- The tokens T2 end at k, where those of T1 go on. -/
structure Cx (T1 T2 : List Tok) (k E : Nat) : Prop where
  ends : tk T2 k = (5, [], E)
  pos : E ≠ 0
  kind : ∀ j, j < k → (tk T1 j).1 = (tk T2 j).1
  text : ∀ j, j < k → (tk T1 j).1 = 4 → (tk T1 j).2.1 = (tk T2 j).2.1
  word : ∀ j, j < k → (tk T1 j).2.1 = (tk T2 j).2.1 ∨ (tk T2 j).2.2 = E
  len1 : k + 1 < T1.length
  len2 : k + 1 = T2.length
  ok1 : TOk T1
/-- How the two parses lie to each other: as one; the second at its end, the first beyond; the second failed at its end. -/
inductive LK (k E : Nat) : St → St → Prop
  | a (i : Nat) : i ≤ k → LK k E ⟨i, 0⟩ ⟨i, 0⟩
  | b (s : St) : s.f = 0 → k < s.i → LK k E s ⟨k, 0⟩
  | c (s1 s2 : St) : s2.f = E → LK k E s1 s2
section
variable {T1 T2 : List Tok} {k E : Nat}
def AG (T1 T2 : List Tok) (k : Nat) (kind : Int) (text : List UInt8) : Prop := kind ≠ 5 ∧ ∀ i, i < k → isP T1 ⟨i, 0⟩ kind text = isP T2 ⟨i, 0⟩ kind text
theorem AG.nil (h : Cx T1 T2 k E) {kind : Int} (h5 : kind ≠ 5) : AG T1 T2 k kind [] := ⟨h5, fun i hi => by unfold isP; simp [h.kind i hi]⟩
theorem AG.mark (h : Cx T1 T2 k E) (text : List UInt8) : AG T1 T2 k 4 text := ⟨by decide, fun i hi => by
  unfold isP
  simp only []
  rw [← h.kind i hi]
  by_cases h4 : (tk T1 i).1 = 4
  · rw [h.text i hi h4]
  · rw [show ((tk T1 i).1 == 4) = false by rw [beq_eq_false_iff_ne]; exact h4]; simp⟩
theorem isP_end (h : Cx T1 T2 k E) {kind : Int} (h5 : kind ≠ 5) (text : List UInt8) : isP T2 ⟨k, 0⟩ kind text = false := by
  unfold isP
  rw [h.ends]
  rw [show (((5 : Int), ([] : List UInt8), E).1 == kind) = false by rw [beq_eq_false_iff_ne]; exact fun e => h5 e.symm]
  simp
theorem fail_end (h : Cx T1 T2 k E) : (failP T2 ⟨k, 0⟩).f = E := by
  unfold failP
  rw [if_pos rfl, h.ends]
theorem next_f (s : St) (kind : Int) : (nextP s kind).f = s.f := by unfold nextP; split <;> rfl
/-- A token that must come. -/
theorem LK.need (h : Cx T1 T2 k E) {kind : Int} {text : List UInt8} (ha : AG T1 T2 k kind text) {s1 s2 : St} (hi : s1.i < T1.length) (hl : LK k E s1 s2) (hf : (needS T1 s1 kind text).f = 0) :
    (∃ i, i ≤ k ∧ needS T1 s1 kind text = ⟨i, 0⟩ ∧ needS T2 s2 kind text = ⟨i, 0⟩) ∨ (needS T2 s2 kind text).f = E := by
  have hp := needS_ok hf h.ok1 hi
  cases hl with
  | a i hik =>
    by_cases hk : i < k
    · have h2 := hp
      rw [ha.2 i hk] at h2
      refine .inl ⟨i + 1, hk, ?_, ?_⟩
      · rw [needS_yes hp]; unfold nextP; rw [if_neg ha.1]
      · rw [needS_yes h2]; unfold nextP; rw [if_neg ha.1]
    · obtain rfl : i = k := by omega
      exact .inr (by rw [needS_no (isP_end h ha.1 text)]; exact fail_end h)
  | b _ h0 h1 => exact .inr (by rw [needS_no (isP_end h ha.1 text)]; exact fail_end h)
  | c _ _ h2 => exact .inr (by rw [needS_bad (by rw [h2]; exact h.pos)]; exact h2)
theorem LK.of_need {s1 s2 : St} (h : (∃ i, i ≤ k ∧ s1 = ⟨i, 0⟩ ∧ s2 = ⟨i, 0⟩) ∨ s2.f = E) : LK k E s1 s2 := by
  rcases h with ⟨i, hi, rfl, rfl⟩ | h
  · exact .a i hi
  · exact .c _ _ h
theorem LK.need' (h : Cx T1 T2 k E) {kind : Int} {text : List UInt8} (ha : AG T1 T2 k kind text) {s1 s2 : St} (hi : s1.i < T1.length) (hl : LK k E s1 s2) (hf : (needS T1 s1 kind text).f = 0) : LK k E (needS T1 s1 kind text) (needS T2 s2 kind text) := LK.of_need (LK.need h ha hi hl hf)
/-- A token that may come. -/
theorem LK.take (h : Cx T1 T2 k E) {kind : Int} {text : List UInt8} (ha : AG T1 T2 k kind text) {s1 s2 : St} (hl : LK k E s1 s2) : LK k E (takeS T1 s1 kind text) (takeS T2 s2 kind text) := by
  cases hl with
  | a i hik =>
    by_cases hk : i < k
    · cases hp : isP T1 ⟨i, 0⟩ kind text
      · rw [takeS_no hp, takeS_no (by rw [← ha.2 i hk]; exact hp)]
        exact .a i hik
      · rw [takeS_yes hp, takeS_yes (by rw [← ha.2 i hk]; exact hp)]
        unfold nextP
        rw [if_neg ha.1]
        exact .a (i + 1) hk
    · obtain rfl : i = k := by omega
      rw [takeS_no (isP_end h ha.1 text) (s := ⟨i, 0⟩)]
      cases hp : isP T1 ⟨i, 0⟩ kind text
      · rw [takeS_no hp]; exact .a i hik
      · rw [takeS_yes hp]
        refine .b _ (next_f _ _) ?_
        unfold nextP
        rw [if_neg ha.1]
        exact Nat.lt_succ_self _
  | b s h0 h1 =>
    rw [takeS_no (isP_end h ha.1 text)]
    cases hp : isP T1 s1 kind text
    · rw [takeS_no hp]; exact .b _ h0 h1
    · rw [takeS_yes hp]
      refine .b _ (by rw [next_f]; exact h0) ?_
      unfold nextP
      rw [if_neg ha.1]
      exact Nat.lt_succ_of_lt h1
  | c _ _ h2 =>
    have hb : takeS T2 s2 kind text = s2 := takeS_bad (by rw [h2]; exact h.pos)
    rw [hb]
    exact .c _ _ h2
/-- Where the first parse takes a branch, the second takes it too, or has come to its end. -/
theorem LK.test (h : Cx T1 T2 k E) {kind : Int} {text : List UInt8} (ha : AG T1 T2 k kind text) {s1 s2 : St} (hl : LK k E s1 s2) : isP T1 s1 kind text = isP T2 s2 kind text ∨ (isP T2 s2 kind text = false ∧ (s2 = ⟨k, 0⟩ ∧ k ≤ s1.i ∧ s1.f = 0 ∨ s2.f = E)) := by
  cases hl with
  | a i hik =>
    by_cases hk : i < k
    · exact .inl (ha.2 i hk)
    · obtain rfl : i = k := by omega
      exact .inr ⟨isP_end h ha.1 text, .inl ⟨rfl, Nat.le_refl _, rfl⟩⟩
  | b _ h0 h1 => exact .inr ⟨isP_end h ha.1 text, .inl ⟨rfl, Nat.le_of_lt h1, h0⟩⟩
  | c _ _ h2 => exact .inr ⟨isP_fault (by rw [h2]; exact h.pos), .inr h2⟩
theorem valS_end (h : Cx T1 T2 k E) : (valS T2 ⟨k, 0⟩).f = E := by
  have e := needS_no (isP_end h (kind := 2) (by decide) [])
  have hf := fail_end h
  unfold valS
  rw [if_neg (by rw [isP_end h (by decide)]; simp), if_neg (by rw [isP_end h (by decide)]; simp), e, if_neg (by rw [isP_fault (by rw [hf]; exact h.pos)]; simp)]
  exact hf
theorem LK.val (h : Cx T1 T2 k E) {s1 s2 : St} (hi : s1.i < T1.length) (hl : LK k E s1 s2) (hf : (valS T1 s1).f = 0) : LK k E (valS T1 s1) (valS T2 s2) := by
  cases hl with
  | a i hik =>
    by_cases hk : i < k
    · have e1 := (AG.nil h (kind := 1) (by decide)).2 i hk
      have e3 := (AG.nil h (kind := 3) (by decide)).2 i hk
      have l0 : LK k E ⟨i, 0⟩ ⟨i, 0⟩ := .a i hik
      cases p1 : isP T1 ⟨i, 0⟩ 1 []
      · rw [p1] at e1
        cases p3 : isP T1 ⟨i, 0⟩ 3 []
        · rw [p3] at e3
          have v1 : valS T1 ⟨i, 0⟩ = if isP T1 (needS T1 ⟨i, 0⟩ 2 []) 4 [47] then needS T1 (takeS T1 (needS T1 ⟨i, 0⟩ 2 []) 4 [47]) 2 [] else needS T1 ⟨i, 0⟩ 2 [] := by
            unfold valS; rw [p1, p3]; rfl
          have v2 : valS T2 ⟨i, 0⟩ = if isP T2 (needS T2 ⟨i, 0⟩ 2 []) 4 [47] then needS T2 (takeS T2 (needS T2 ⟨i, 0⟩ 2 []) 4 [47]) 2 [] else needS T2 ⟨i, 0⟩ 2 [] := by
            unfold valS; rw [← e1, ← e3]; rfl
          rw [v1] at hf ⊢
          rw [v2]
          cases p4 : isP T1 (needS T1 ⟨i, 0⟩ 2 []) 4 [47]
          · rw [p4, if_neg (by simp)] at hf
            rw [if_neg (by simp)]
            have l1 := LK.need' h (AG.nil h (kind := 2) (by decide)) hi l0 hf
            rcases LK.test h (AG.mark h [47]) l1 with t | ⟨t, _⟩
            · rw [← t, p4, if_neg (by simp)]; exact l1
            · rw [t, if_neg (by simp)]; exact l1
          · rw [p4, if_pos rfl] at hf
            rw [if_pos rfl]
            have hf2 : (needS T1 ⟨i, 0⟩ 2 []).f = 0 := (isP_kind p4).1
            have l1 := LK.need' h (AG.nil h (kind := 2) (by decide)) hi l0 hf2
            have i1 := in_needS (kind := 2) (text := []) h.ok1 hi
            have i2 := in_takeS (kind := 4) (text := [47]) h.ok1 i1
            have l2 := LK.take h (AG.mark h [47]) l1
            rcases LK.test h (AG.mark h [47]) l1 with t | ⟨t, ⟨hs, hki, _⟩ | hs⟩
            · rw [← t, p4, if_pos rfl]
              exact LK.need' h (AG.nil h (kind := 2) (by decide)) i2 l2 hf
            · rw [t, if_neg (by simp), hs]
              refine .b _ hf ?_
              have m1 : (takeS T1 (needS T1 ⟨i, 0⟩ 2 []) 4 [47]).i = (needS T1 ⟨i, 0⟩ 2 []).i + 1 := by rw [takeS_yes p4]; rfl
              have m2 := needS_mono T1 (takeS T1 (needS T1 ⟨i, 0⟩ 2 []) 4 [47]) 2 []
              omega
            · rw [t, if_neg (by simp)]
              exact .c _ _ hs
        · rw [p3] at e3
          have v1 : valS T1 ⟨i, 0⟩ = takeS T1 ⟨i, 0⟩ 3 [] := by unfold valS; rw [p1, p3]; rfl
          have v2 : valS T2 ⟨i, 0⟩ = takeS T2 ⟨i, 0⟩ 3 [] := by unfold valS; rw [← e1, ← e3]; rfl
          rw [v1, v2]
          exact LK.take h (AG.nil h (by decide)) l0
      · rw [p1] at e1
        have v1 : valS T1 ⟨i, 0⟩ = takeS T1 ⟨i, 0⟩ 1 [] := by unfold valS; rw [p1]; rfl
        have v2 : valS T2 ⟨i, 0⟩ = takeS T2 ⟨i, 0⟩ 1 [] := by unfold valS; rw [← e1]; rfl
        rw [v1, v2]
        exact LK.take h (AG.nil h (by decide)) l0
    · obtain rfl : i = k := by omega
      exact .c _ _ (valS_end h)
  | b _ h0 h1 => exact .c _ _ (valS_end h)
  | c _ _ h2 => exact .c _ _ (by rw [valS_bad (by rw [h2]; exact h.pos)]; exact h2)
theorem LK.com (h : Cx T1 T2 k E) : ∀ (f1 : Nat) (s1 s2 : St) (f2 : Nat), s1.i < T1.length → T1.length ≤ f1 + s1.i → T2.length ≤ f2 + s2.i → LK k E s1 s2 → (comS T1 f1 s1).f = 0 → LK k E (comS T1 f1 s1) (comS T2 f2 s2) := by
  intro f1
  induction f1 with
  | zero => intro s1 s2 f2 hi h1; omega
  | succ f1 ih =>
    intro s1 s2 f2 hi h1 h2 hl hf
    have hT := LK.test h (AG.mark h [44]) hl
    cases hp : isP T1 s1 4 [44]
    · obtain ⟨_, e2⟩ := comT_no (f := f1 + 1) hp
      rw [e2]
      have hp2 : isP T2 s2 4 [44] = false := by
        rcases hT with t | ⟨t, _⟩
        · rw [← t]; exact hp
        · exact t
      rw [(comT_no (f := f2) hp2).2]
      exact hl
    · obtain ⟨_, e2⟩ := comT_yes (f := f1) hp
      rw [e2] at hf ⊢
      have m1 : (takeS T1 s1 4 [44]).i = s1.i + 1 := by rw [takeS_yes hp]; rfl
      have m2 := valS_mono T1 (takeS T1 s1 4 [44])
      have m3 := comS_mono T1 f1 (valS T1 (takeS T1 s1 4 [44]))
      rcases hT with t | ⟨t, ⟨hs, hki, _⟩ | hs⟩
      · have hp2 : isP T2 s2 4 [44] = true := by rw [← t]; exact hp
        obtain ⟨g, rfl⟩ : ∃ g, f2 = g + 1 := ⟨f2 - 1, by
          have : s2.i < T2.length := by
            cases hl with
            | a i hik => have := h.len2; show i < _; omega
            | b => have := h.len2; show k < _; omega
            | c _ _ h2 => rw [isP_fault (by rw [h2]; exact h.pos)] at hp2; simp at hp2
          omega⟩
        obtain ⟨_, g2⟩ := comT_yes (f := g) hp2
        rw [g2]
        have i1 := in_takeS (kind := 4) (text := [44]) h.ok1 hi
        have n1 : (takeS T2 s2 4 [44]).i = s2.i + 1 := by rw [takeS_yes hp2]; rfl
        have n2 := valS_mono T2 (takeS T2 s2 4 [44])
        have l1 := LK.val h i1 (LK.take h (AG.mark h [44]) hl) (comS_f hf)
        exact ih _ _ g (in_valS h.ok1 i1) (by omega) (by omega) l1 hf
      · rw [(comT_no (f := f2) t).2, hs]
        exact .b _ hf (by omega)
      · rw [(comT_no (f := f2) t).2]
        exact .c _ _ hs
theorem LK.in2 (h : Cx T1 T2 k E) {s1 s2 : St} (hl : LK k E s1 s2) {kind : Int} {text : List UInt8} (hp : isP T2 s2 kind text = true) : s2.i < T2.length := by
  cases hl with
  | a i hik => have := h.len2; show i < _; omega
  | b => have := h.len2; show k < _; omega
  | c _ _ h2 => rw [isP_fault (by rw [h2]; exact h.pos)] at hp; simp at hp
theorem len2_le (h : Cx T1 T2 k E) : T2.length ≤ T1.length := by have := h.len1; have := h.len2; omega
theorem LK.fld (h : Cx T1 T2 k E) {s1 s2 : St} (hi : s1.i < T1.length) (hl : LK k E s1 s2) (hf : (fldS T1 s1).f = 0) : LK k E (fldS T1 s1) (fldS T2 s2) := by
  unfold fldS at hf ⊢
  have h1 := needS_f hf
  have h2 := comS_f h1
  have h3 := valS_f h2
  have i1 := in_needS (kind := 1) (text := []) h.ok1 hi
  have i2 := in_valS h.ok1 i1
  have i3 := in_comS h.ok1 T1.length _ i2
  have l1 := LK.need' h (AG.nil h (kind := 1) (by decide)) hi hl h3
  have l2 := LK.val h i1 l1 h2
  have l3 := LK.com h T1.length _ _ T2.length i2 (by omega) (by omega) l2 h1
  exact LK.need' h (AG.mark h [59]) i3 l3 hf
theorem fldS_f {s : St} (h : (fldS T1 s).f = 0) : s.f = 0 := by
  by_cases hs : s.f = 0
  · exact hs
  · rw [fldS_bad hs] at h; exact absurd h hs
theorem LK.fs (h : Cx T1 T2 k E) : ∀ (f1 : Nat) (s1 s2 : St) (f2 : Nat), s1.i < T1.length → T1.length ≤ f1 + s1.i → T2.length ≤ f2 + s2.i → LK k E s1 s2 → (fsS T1 f1 s1).f = 0 → LK k E (fsS T1 f1 s1) (fsS T2 f2 s2) := by
  intro f1
  induction f1 with
  | zero => intro s1 s2 f2 hi h1; omega
  | succ f1 ih =>
    intro s1 s2 f2 hi h1 h2 hl hf
    have hT := LK.test h (AG.nil h (kind := 1) (by decide)) hl
    cases hp : isP T1 s1 1 []
    · obtain ⟨_, e2⟩ := fsT_no (f := f1 + 1) hp
      rw [e2]
      have hp2 : isP T2 s2 1 [] = false := by
        rcases hT with t | ⟨t, _⟩
        · rw [← t]; exact hp
        · exact t
      rw [(fsT_no (f := f2) hp2).2]
      exact hl
    · obtain ⟨_, e2⟩ := fsT_yes (f := f1) hp
      rw [e2] at hf ⊢
      have m2 := fldS_more hp
      have m3 := fsS_mono T1 f1 (fldS T1 s1)
      rcases hT with t | ⟨t, ⟨hs, hki, _⟩ | hs⟩
      · have hp2 : isP T2 s2 1 [] = true := by rw [← t]; exact hp
        obtain ⟨g, rfl⟩ : ∃ g, f2 = g + 1 := ⟨f2 - 1, by have := LK.in2 h hl hp2; omega⟩
        obtain ⟨_, g2⟩ := fsT_yes (f := g) hp2
        rw [g2]
        have n2 := fldS_more hp2
        have l1 := LK.fld h hi hl (fsS_f hf)
        exact ih _ _ g (in_fldS h.ok1 hi) (by omega) (by omega) l1 hf
      · rw [(fsT_no (f := f2) t).2, hs]
        exact .b _ hf (by omega)
      · rw [(fsT_no (f := f2) t).2]
        exact .c _ _ hs
theorem LK.blk (h : Cx T1 T2 k E) {s1 s2 : St} (hi : s1.i < T1.length) (hl : LK k E s1 s2) (hf : (blkS T1 s1).f = 0) : LK k E (blkS T1 s1) (blkS T2 s2) := by
  unfold blkS at hf ⊢
  have h1 := needS_f hf
  have h2 := fsS_f h1
  unfold blk3 at h2
  have h3 := needS_f h2
  have h4 : (needS T1 s1 1 []).f = 0 := by
    by_cases hs : (needS T1 s1 1 []).f = 0
    · exact hs
    · rw [takeS_bad hs] at h3; exact absurd h3 hs
  have i1 := in_needS (kind := 1) (text := []) h.ok1 hi
  have i2 := in_takeS (kind := 1) (text := []) h.ok1 i1
  have i4 := in_blk3 h.ok1 hi
  have i5 := in_fsS h.ok1 T1.length _ i4
  have l1 := LK.need' h (AG.nil h (kind := 1) (by decide)) hi hl h4
  have l2 := LK.take h (AG.nil h (kind := 1) (by decide)) l1
  have l3 : LK k E (blk3 T1 s1) (blk3 T2 s2) := LK.need' h (AG.mark h [123]) i2 l2 h2
  have l4 := LK.fs h T1.length _ _ T2.length i4 (by omega) (by omega) l3 h1
  exact LK.need' h (AG.mark h [125]) i5 l4 hf
theorem LK.bs (h : Cx T1 T2 k E) : ∀ (f1 : Nat) (s1 s2 : St) (f2 : Nat), s1.i < T1.length → T1.length ≤ f1 + s1.i → T2.length ≤ f2 + s2.i → LK k E s1 s2 → (bsS T1 f1 s1).f = 0 → LK k E (bsS T1 f1 s1) (bsS T2 f2 s2) := by
  intro f1
  induction f1 with
  | zero => intro s1 s2 f2 hi h1; omega
  | succ f1 ih =>
    intro s1 s2 f2 hi h1 h2 hl hf
    have hT := LK.test h (AG.nil h (kind := 1) (by decide)) hl
    cases hp : isP T1 s1 1 []
    · obtain ⟨_, e2⟩ := bsT_no (f := f1 + 1) hp
      rw [e2]
      have hp2 : isP T2 s2 1 [] = false := by
        rcases hT with t | ⟨t, _⟩
        · rw [← t]; exact hp
        · exact t
      rw [(bsT_no (f := f2) hp2).2]
      exact hl
    · obtain ⟨_, e2⟩ := bsT_yes (f := f1) hp
      rw [e2] at hf ⊢
      have m2 := blkS_more hp
      have m3 : (blkS T1 s1).i ≤ (bsS T1 f1 (blkS T1 s1)).i := by
        have : ∀ (f : Nat) (s : St), s.i ≤ (bsS T1 f s).i := by
          intro f
          induction f with
          | zero => intro s; exact Nat.le_refl _
          | succ f ih2 =>
            intro s
            unfold bsS
            split
            · rename_i hq
              exact Nat.le_trans (by have := blkS_more hq; omega) (ih2 _)
            · exact Nat.le_refl _
        exact this _ _
      rcases hT with t | ⟨t, ⟨hs, hki, _⟩ | hs⟩
      · have hp2 : isP T2 s2 1 [] = true := by rw [← t]; exact hp
        obtain ⟨g, rfl⟩ : ∃ g, f2 = g + 1 := ⟨f2 - 1, by have := LK.in2 h hl hp2; omega⟩
        obtain ⟨_, g2⟩ := bsT_yes (f := g) hp2
        rw [g2]
        have n2 := blkS_more hp2
        have l1 := LK.blk h hi hl (bsS_f hf)
        exact ih _ _ g (in_blkS h.ok1 hi) (by omega) (by omega) l1 hf
      · rw [(bsT_no (f := f2) t).2, hs]
        exact .b _ hf (by omega)
      · rw [(bsT_no (f := f2) t).2]
        exact .c _ _ hs
/-- The word 'election', whole or not. -/
theorem LK.elec (h : Cx T1 T2 k E) (hf : (srcA T1).f = 0) : LK k E (srcA T1) (srcA T2) := by
  have hp : isP T1 ⟨0, 0⟩ 1 elW = true := needS_ok hf h.ok1 h.ok1.pos
  unfold srcA
  by_cases hk : 0 < k
  · rcases h.word 0 hk with hw | hw
    · have ha : isP T1 ⟨0, 0⟩ 1 elW = isP T2 ⟨0, 0⟩ 1 elW := by
        unfold isP
        simp only []
        rw [← h.kind 0 hk, hw]
      rw [needS_yes hp, needS_yes (by rw [← ha]; exact hp)]
      exact .a 1 hk
    · cases hp2 : isP T2 ⟨0, 0⟩ 1 elW
      · refine .c _ _ ?_
        rw [needS_no hp2]
        unfold failP
        rw [if_pos rfl]
        exact hw
      · rw [needS_yes hp, needS_yes hp2]
        exact .a 1 hk
  · obtain rfl : k = 0 := by omega
    exact .c _ _ (by rw [needS_no (isP_end h (by decide) elW)]; exact fail_end h)
theorem cut_parse (h : Cx T1 T2 k E) (hf : (srcS T1).f = 0) (hi : (srcS T1).i + 1 = T1.length) : (srcS T2).f = E := by
  unfold srcS at hf hi ⊢
  have h1 := needS_f hf
  have h2 := needS_f h1
  have h3 := bsS_f h2
  unfold srcC at h3
  have h4 := needS_f h3
  have h5 := needS_f h4
  have j0 : (⟨0, 0⟩ : St).i < T1.length := h.ok1.pos
  have i1 : (srcA T1).i < T1.length := in_needS h.ok1 j0
  have i2 := in_needS (kind := 3) (text := []) h.ok1 i1
  have i3 := in_srcC h.ok1
  have i4 := in_bsS h.ok1 T1.length _ i3
  have l1 := LK.elec h h5
  have l2 := LK.need' h (AG.nil h (kind := 3) (by decide)) i1 l1 h4
  have l3 : LK k E (srcC T1) (srcC T2) := LK.need' h (AG.mark h [123]) i2 l2 h3
  have l4 := LK.bs h T1.length _ _ T2.length i3 (by omega) (by omega) l3 h2
  have hp := needS_ok hf h.ok1 (in_needS (kind := 4) (text := [125]) h.ok1 i4)
  have e5 : needS T1 (needS T1 (bsS T1 T1.length (srcC T1)) 4 [125]) 5 [] = needS T1 (bsS T1 T1.length (srcC T1)) 4 [125] := by rw [needS_yes hp]; rfl
  rw [e5] at hi
  rcases LK.need h (AG.mark h [125]) i4 l4 h1 with ⟨i, hik, g1, g2⟩ | g
  · rw [g1] at hi
    have := h.len1
    simp only at hi
    omega
  · rw [needS_bad (by rw [g]; exact h.pos)]
    exact g
end

end Go.Proofs.Ythdcgplocdehjaa
