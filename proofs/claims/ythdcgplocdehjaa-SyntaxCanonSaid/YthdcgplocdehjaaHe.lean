/- What is parsed off a text can be printed, and is no great text. -/
import Derived.Test.YthdcgplocdehjaaHb
import Derived.Test.YthdcgplocdehjaaFa
namespace Go.Proofs.Ythdcgplocdehjaa
open Go.RowKit Go.Proofs.Kit

/-- What a token's text is. -/
def TP (t : Tok) : Prop := (t.1 = 1 → wordB t.2.1 = true) ∧ (t.1 = 2 → numB t.2.1 = true) ∧ (t.1 = 3 → t.2.1.all isPrint = true)
theorem tp1 {t : List UInt8} {n : Nat} (h : wordB t = true) : TP (1, t, n) := ⟨fun _ => h, fun e => absurd (show (1 : Int) = 2 from e) (by decide), fun e => absurd (show (1 : Int) = 3 from e) (by decide)⟩
theorem tp2 {t : List UInt8} {n : Nat} (h : numB t = true) : TP (2, t, n) := ⟨fun e => absurd (show (2 : Int) = 1 from e) (by decide), fun _ => h, fun e => absurd (show (2 : Int) = 3 from e) (by decide)⟩
theorem tp3 {t : List UInt8} {n : Nat} (h : t.all isPrint = true) : TP (3, t, n) := ⟨fun e => absurd (show (3 : Int) = 1 from e) (by decide), fun e => absurd (show (3 : Int) = 2 from e) (by decide), fun _ => h⟩
theorem tp0 {k : Int} {t : List UInt8} {n : Nat} (h1 : k ≠ 1) (h2 : k ≠ 2) (h3 : k ≠ 3) : TP (k, t, n) := ⟨fun e => absurd e h1, fun e => absurd e h2, fun e => absurd e h3⟩
theorem strL_print : ∀ (m : Nat) (l t : List UInt8) (n : Nat), l.length ≤ m → strL l = some (t, n) → t.all isPrint = true ∧ t.length ≤ n := by
  intro m
  induction m with
  | zero => intro l t n hl h; cases l with
    | nil => simp [strL] at h
    | cons a r => simp at hl
  | succ m ih =>
    intro l t n hl h
    cases l with
    | nil => simp [strL] at h
    | cons c r =>
      unfold strL at h
      split at h
      · simp at h; rw [h.1]; simp
      · split at h
        · cases r with
          | nil => simp at h
          | cons d r' =>
            simp only [] at h
            split at h
            · rename_i hq
              cases hs : strL r' with
              | none => rw [hs] at h; simp at h
              | some x =>
                rw [hs] at h; simp at h
                obtain ⟨i1, i2⟩ := ih r' x.1 x.2 (by simp at hl; omega) hs
                rw [← h.1, ← h.2, List.all_cons, i1, List.length_cons]
                have : isPrint d = true := by
                  simp only [Bool.or_eq_true, beq_iff_eq] at hq
                  unfold isPrint
                  simp only [Bool.and_eq_true, decide_eq_true_eq]
                  omega
                rw [this]
                exact ⟨rfl, by omega⟩
            · simp at h
        · split at h
          · rename_i hp
            cases hs : strL r with
            | none => rw [hs] at h; simp at h
            | some x =>
              rw [hs] at h; simp at h
              obtain ⟨i1, i2⟩ := ih r x.1 x.2 (by simp at hl; omega) hs
              rw [← h.1, ← h.2, List.all_cons, i1, hp, List.length_cons]
              exact ⟨rfl, by omega⟩
          · simp at h
theorem oneL_tp {l t : List UInt8} {k : Int} {n line : Nat} (h : oneL l = some (k, t, n)) : TP (k, t, line) ∧ t.length ≤ n := by
  unfold oneL at h
  split at h
  · rename_i hw
    simp at h
    obtain ⟨rfl, rfl, rfl⟩ := h
    exact ⟨tp1 hw, by rw [List.length_take]; omega⟩
  · split at h
    · rename_i hw
      simp at h
      obtain ⟨rfl, rfl, rfl⟩ := h
      exact ⟨tp2 hw, by rw [List.length_take]; omega⟩
    · split at h
      · simp at h
      · split at h
        · simp at h
          obtain ⟨rfl, rfl, rfl⟩ := h
          exact ⟨tp0 (by decide) (by decide) (by decide), by simp⟩
        · split at h
          · rename_i c r _ _ _ _
            cases hs : strL r with
            | none => rw [hs] at h; simp at h
            | some x =>
              rw [hs] at h; simp at h
              obtain ⟨rfl, rfl, rfl⟩ := h
              obtain ⟨i1, i2⟩ := strL_print _ r x.1 x.2 (Nat.le_refl _) hs
              exact ⟨tp3 i1, by omega⟩
          · simp at h
def sumL (T : List Tok) : Nat := (T.map fun t => t.2.1.length).sum
theorem refL_tp : ∀ (f line : Nat) (l : List UInt8) (T : List Tok), refL f line l = .ok T → (∀ t ∈ T, TP t) ∧ sumL T ≤ l.length := by
  intro f
  induction f with
  | zero => intro line l T h; simp [refL] at h
  | succ f ih =>
    intro line l T h
    cases l with
    | nil =>
      simp [refL] at h
      rw [← h]
      refine ⟨fun t ht => ?_, by simp [sumL]⟩
      rw [List.mem_singleton] at ht
      subst ht
      exact tp0 (by decide) (by decide) (by decide)
    | cons c r =>
      rw [refL] at h
      split at h
      · obtain ⟨h1, h2⟩ := ih _ _ _ h
        exact ⟨h1, by rw [List.length_drop] at h2; omega⟩
      · split at h
        · obtain ⟨h1, h2⟩ := ih _ _ _ h
          exact ⟨h1, by rw [List.length_cons]; omega⟩
        · cases ho : oneL (c :: r) with
          | none => rw [ho] at h; simp at h
          | some x =>
            obtain ⟨k, t, n⟩ := x
            rw [ho] at h
            simp only [] at h
            have hl := oneL_len ho
            cases hr : refL f line ((c :: r).drop n) with
            | error e => rw [hr] at h; simp [Except.map] at h
            | ok S =>
              rw [hr] at h
              have h : (k, t, line) :: S = T := by simpa [Except.map] using h
              obtain ⟨h1, h2⟩ := ih _ _ _ hr
              obtain ⟨o1, o2⟩ := oneL_tp (line := line) ho
              rw [← h]
              refine ⟨fun y hy => ?_, ?_⟩
              · rcases List.mem_cons.1 hy with rfl | hy
                · exact o1
                · exact h1 y hy
              · have e : sumL ((k, t, line) :: S) = t.length + sumL S := by simp [sumL]
                rw [e]
                rw [List.length_drop] at h2
                omega
section
variable {T : List Tok}
theorem tk_tp (h : ∀ t ∈ T, TP t) (i : Nat) : TP (tk T i) := by
  unfold tk
  rw [List.getD_eq_getElem?_getD]
  cases hi : T[i]? with
  | none => exact tp0 (k := 0) (by decide) (by decide) (by decide)
  | some t => exact h t (List.mem_of_getElem? hi)
theorem valT_print (h : ∀ t ∈ T, TP t) (s : St) : (valT T s).all isPrint = true := by
  have num : ∀ s : St, (takeT T s 2 []).2.1.all isPrint = true := fun s => by
    unfold takeT
    split
    · rename_i hp
      have h1 := (numB_all ((tk_tp h s.i).2.1 (isP_kind hp).2)).1
      rw [List.all_eq_true] at *
      exact fun c hc => tail_print (digit_tail (h1 c hc))
    · rfl
  unfold valT
  split
  · rename_i hp
    have h1 := (wordB_all ((tk_tp h s.i).1 (isP_kind hp).2)).1
    rw [List.all_eq_true] at *
    exact fun c hc => tail_print (h1 c hc)
  · split
    · rename_i hp
      exact (tk_tp h s.i).2.2 (isP_kind hp).2
    · split
      · rw [List.all_append, List.all_cons, num, num]; rfl
      · exact num s
theorem comT_print (h : ∀ t ∈ T, TP t) : ∀ (f : Nat) (s : St), (comT T f s).all (fun v => v.all isPrint) = true := by
  intro f
  induction f with
  | zero => intro s; rfl
  | succ f ih =>
    intro s
    unfold comT
    split
    · rw [List.all_cons, valT_print h, ih]; rfl
    · rfl
theorem fldT_ok (h : ∀ t ∈ T, TP t) {s : St} (hp : isP T s 1 [] = true) : fieldOk (fldT T s) = true := by
  unfold fieldOk fldT
  rw [takeT_yes hp, (tk_tp h s.i).1 (isP_kind hp).2]
  simp only [List.all_cons, valT_print h, comT_print h]
  rfl
theorem fsT_ok (h : ∀ t ∈ T, TP t) : ∀ (f : Nat) (s : St), (fsT T f s).all fieldOk = true := by
  intro f
  induction f with
  | zero => intro s; rfl
  | succ f ih =>
    intro s
    unfold fsT
    split
    · rename_i hp
      rw [List.all_cons, fldT_ok h hp, ih]; rfl
    · rfl
theorem blkT_ok (h : ∀ t ∈ T, TP t) {s : St} (hp : isP T s 1 [] = true) : blockOk (blkT T s) = true := by
  unfold blockOk blkT
  rw [takeT_yes hp, (tk_tp h s.i).1 (isP_kind hp).2, fsT_ok h]
  have : ((takeT T (needS T s 1 []) 1 []).2.1.isEmpty || wordB (takeT T (needS T s 1 []) 1 []).2.1) = true := by
    unfold takeT
    split
    · rename_i hq
      rw [(tk_tp h _).1 (isP_kind hq).2, Bool.or_true]
    · rfl
  rw [this]; rfl
theorem bsT_ok (h : ∀ t ∈ T, TP t) : ∀ (f : Nat) (s : St), (bsT T f s).all blockOk = true := by
  intro f
  induction f with
  | zero => intro s; rfl
  | succ f ih =>
    intro s
    unfold bsT
    split
    · rename_i hp
      rw [List.all_cons, blkT_ok h hp, ih]; rfl
    · rfl
theorem srcT_ok (h : ∀ t ∈ T, TP t) : srcOk (srcT T) = true := by
  unfold srcOk srcT
  rw [bsT_ok h, Bool.and_true]
  unfold takeT
  split
  · rename_i hp
    exact (tk_tp h _).2.2 (isP_kind hp).2
  · rfl

/-- What the tokens ahead of the i-th weigh. -/
def wt (T : List Tok) : Nat → Nat
  | 0 => 0
  | i + 1 => wt T i + 2 * (tk T i).2.1.length + 12
theorem wt_mono {i j : Nat} (h : i ≤ j) : wt T i ≤ wt T j := by
  induction j with
  | zero => rw [show i = 0 by omega]; exact Nat.le_refl _
  | succ j ih =>
    by_cases hi : i = j + 1
    · rw [hi]; exact Nat.le_refl _
    · have := ih (by omega)
      show _ ≤ wt T j + 2 * (tk T j).2.1.length + 12
      omega
theorem needS_ok {s : St} {kind : Int} {text : List UInt8} (h : (needS T s kind text).f = 0) (hT : TOk T) (hi : s.i < T.length) : isP T s kind text = true := by
  cases hp : isP T s kind text
  · rw [needS_no hp] at h
    exact absurd h (failP_f hT hi)
  · rfl
theorem takeS_wt {s : St} {kind : Int} {text : List UInt8} (hp : isP T s kind text = true) (h5 : kind ≠ 5) : wt T (takeS T s kind text).i = wt T s.i + 2 * (tk T s.i).2.1.length + 12 ∧ wt T (needS T s kind text).i = wt T s.i + 2 * (tk T s.i).2.1.length + 12 ∧ (takeT T s kind text) = tk T s.i := by
  have e : nextP s kind = ⟨s.i + 1, s.f⟩ := by unfold nextP; rw [if_neg h5]
  rw [takeS_yes hp, needS_yes hp, e, takeT_yes hp]
  exact ⟨rfl, rfl, rfl⟩
theorem val_wt (hT : TOk T) {s : St} (hi : s.i < T.length) (h : (valS T s).f = 0) : (shownL (valT T s)).length + wt T s.i + 10 ≤ wt T (valS T s).i := by
  have hs := shownL_len (valT T s)
  revert hs h
  unfold valT valS
  split
  · rename_i hp
    intro h hs
    obtain ⟨e1, e2, e3⟩ := takeS_wt hp (by decide)
    rw [e1]; omega
  · split
    · rename_i hp
      intro h hs
      obtain ⟨e1, e2, e3⟩ := takeS_wt hp (by decide)
      rw [e1]; omega
    · split
      · rename_i hp4
        intro h hs
        have hf1 : (needS T s 2 []).f = 0 := (isP_kind hp4).1
        have hp2 := needS_ok hf1 hT hi
        obtain ⟨e1, e2, e3⟩ := takeS_wt hp2 (by decide)
        obtain ⟨g1, g2, g3⟩ := takeS_wt hp4 (by decide)
        have hp5 := needS_ok h hT (in_takeS hT (in_needS hT hi))
        obtain ⟨k1, k2, k3⟩ := takeS_wt hp5 (by decide)
        rw [k2, g1, e2]
        rw [e3, k3, List.length_append, List.length_cons] at hs
        rw [e3, k3]
        omega
      · intro h hs
        have hp2 := needS_ok h hT hi
        obtain ⟨e1, e2, e3⟩ := takeS_wt hp2 (by decide)
        rw [e2]
        rw [e3] at hs ⊢
        omega
theorem comS_f {f : Nat} {s : St} (h : (comS T f s).f = 0) : s.f = 0 := by
  by_cases hs : s.f = 0
  · exact hs
  · rw [comS_bad hs] at h; exact absurd h hs
theorem fsS_f {f : Nat} {s : St} (h : (fsS T f s).f = 0) : s.f = 0 := by
  by_cases hs : s.f = 0
  · exact hs
  · rw [fsS_bad hs] at h; exact absurd h hs
theorem bsS_f {f : Nat} {s : St} (h : (bsS T f s).f = 0) : s.f = 0 := by
  by_cases hs : s.f = 0
  · exact hs
  · rw [bsS_bad hs] at h; exact absurd h hs
theorem needS_f {s : St} {kind : Int} {text : List UInt8} (h : (needS T s kind text).f = 0) : s.f = 0 := by
  by_cases hs : s.f = 0
  · exact hs
  · rw [needS_bad hs] at h; exact absurd h hs
theorem valS_f {s : St} (h : (valS T s).f = 0) : s.f = 0 := by
  by_cases hs : s.f = 0
  · exact hs
  · rw [valS_bad hs] at h; exact absurd h hs
theorem com_wt (hT : TOk T) : ∀ (f : Nat) (s : St), s.i < T.length → (comS T f s).f = 0 → (Lib.joinTail [44, 32] ((comT T f s).map shownL)).length + wt T s.i ≤ wt T (comS T f s).i := by
  intro f
  induction f with
  | zero => intro s _ _; simp [comT, comS, Lib.joinTail]
  | succ f ih =>
    intro s hi h
    cases hp : isP T s 4 [44]
    · obtain ⟨e1, e2⟩ := comT_no (f := f + 1) hp
      rw [e1, e2]
      simp [Lib.joinTail]
    · obtain ⟨e1, e2⟩ := comT_yes (f := f) hp
      rw [e2] at h
      have hv := val_wt hT (in_takeS hT hi) (comS_f h)
      have i1 := ih _ (in_valS hT (in_takeS hT hi)) h
      obtain ⟨g1, g2, g3⟩ := takeS_wt hp (by decide)
      rw [e1, e2]
      have e : Lib.joinTail [44, 32] ((valT T (takeS T s 4 [44]) :: comT T f (valS T (takeS T s 4 [44]))).map shownL) = [44, 32] ++ shownL (valT T (takeS T s 4 [44])) ++ Lib.joinTail [44, 32] ((comT T f (valS T (takeS T s 4 [44]))).map shownL) := by simp [Lib.joinTail]
      rw [e]
      simp only [List.length_append, List.length_cons, List.length_nil]
      omega
theorem fld_wt (hT : TOk T) {s : St} (hi : s.i < T.length) (h : (fldS T s).f = 0) : (fieldL (fldT T s)).length + wt T s.i ≤ wt T (fldS T s).i := by
  unfold fldS at h ⊢
  have h1 := needS_f h
  have h2 := comS_f h1
  have h3 := valS_f h2
  have hp := needS_ok h3 hT hi
  have i1 := in_needS (kind := 1) (text := []) hT hi
  have i2 := in_valS hT i1
  have i3 := in_comS hT T.length _ i2
  have hq := needS_ok h hT i3
  obtain ⟨a1, a2, a3⟩ := takeS_wt hp (by decide)
  obtain ⟨b1, b2, b3⟩ := takeS_wt hq (by decide)
  have v := val_wt hT i1 h2
  have c := com_wt hT T.length _ i2 h1
  unfold fieldL fldT
  simp only [List.map_cons, Lib.join_cons, List.length_append, List.length_cons, List.length_nil, a3]
  rw [b2]
  omega
theorem fs_wt (hT : TOk T) : ∀ (f : Nat) (s : St), s.i < T.length → (fsS T f s).f = 0 → ((fsT T f s).flatMap fieldL).length + wt T s.i ≤ wt T (fsS T f s).i := by
  intro f
  induction f with
  | zero => intro s _ _; simp [fsT, fsS]
  | succ f ih =>
    intro s hi h
    cases hp : isP T s 1 []
    · obtain ⟨e1, e2⟩ := fsT_no (f := f + 1) hp
      rw [e1, e2]
      simp
    · obtain ⟨e1, e2⟩ := fsT_yes (f := f) hp
      rw [e2] at h
      have hv := fld_wt hT hi (fsS_f h)
      have i1 := ih _ (in_fldS hT hi) h
      rw [e1, e2, List.flatMap_cons, List.length_append]
      omega
theorem blk_wt (hT : TOk T) {s : St} (hi : s.i < T.length) (h : (blkS T s).f = 0) : (blockL (blkT T s)).length + wt T s.i ≤ wt T (blkS T s).i := by
  unfold blkS at h ⊢
  have h1 := needS_f h
  have h2 := fsS_f h1
  unfold blk3 at h2
  have h3 := needS_f h2
  have h4 : (needS T s 1 []).f = 0 := by
    by_cases hs : (needS T s 1 []).f = 0
    · exact hs
    · rw [takeS_bad hs] at h3; exact absurd h3 hs
  have hp := needS_ok h4 hT hi
  have i1 := in_needS (kind := 1) (text := []) hT hi
  have i2 := in_takeS (kind := 1) (text := []) hT i1
  have hq := needS_ok h2 hT i2
  have i4 := in_blk3 hT hi
  have i5 := in_fsS hT T.length _ i4
  have hr := needS_ok h hT i5
  obtain ⟨a1, a2, a3⟩ := takeS_wt hp (by decide)
  obtain ⟨b1, b2, b3⟩ := takeS_wt hq (by decide)
  obtain ⟨c1, c2, c3⟩ := takeS_wt hr (by decide)
  have v := fs_wt hT T.length _ i4 h1
  have hb3 : wt T (blk3 T s).i = wt T (takeS T (needS T s 1 []) 1 []).i + 2 * (tk T (takeS T (needS T s 1 []) 1 []).i).2.1.length + 12 := b2
  have hname : (if (takeT T (needS T s 1 []) 1 []).2.1.isEmpty then ([] : List UInt8) else 32 :: (takeT T (needS T s 1 []) 1 []).2.1).length + wt T (needS T s 1 []).i ≤ wt T (takeS T (needS T s 1 []) 1 []).i := by
    cases hn : isP T (needS T s 1 []) 1 []
    · rw [takeT_no hn, takeS_no hn]
      simp [tok0]
    · obtain ⟨d1, d2, d3⟩ := takeS_wt hn (by decide)
      rw [d1, d3]
      split <;> simp <;> omega
  unfold blockL headL blkT
  simp only [List.length_append, List.length_cons, List.length_nil, a3]
  rw [c2]
  omega
theorem bs_wt (hT : TOk T) : ∀ (f : Nat) (s : St), s.i < T.length → (bsS T f s).f = 0 → ((bsT T f s).flatMap blockL).length + wt T s.i ≤ wt T (bsS T f s).i := by
  intro f
  induction f with
  | zero => intro s _ _; simp [bsT, bsS]
  | succ f ih =>
    intro s hi h
    cases hp : isP T s 1 []
    · obtain ⟨e1, e2⟩ := bsT_no (f := f + 1) hp
      rw [e1, e2]
      simp
    · obtain ⟨e1, e2⟩ := bsT_yes (f := f) hp
      rw [e2] at h
      have hv := blk_wt hT hi (bsS_f h)
      have i1 := ih _ (in_blkS hT hi) h
      rw [e1, e2, List.flatMap_cons, List.length_append]
      omega
theorem in_bsS (hT : TOk T) : ∀ (f : Nat) (s : St), s.i < T.length → (bsS T f s).i < T.length := by
  intro f
  induction f with
  | zero => intro s h; exact h
  | succ f ih =>
    intro s h
    unfold bsS
    split
    · exact ih _ (in_blkS hT h)
    · exact h
theorem src_wt (hT : TOk T) (h : (srcS T).f = 0) : (srcL (srcT T)).length ≤ wt T T.length := by
  unfold srcS at h
  have h1 := needS_f h
  have h2 := needS_f h1
  have h3 := bsS_f h2
  unfold srcC at h3
  have h4 := needS_f h3
  have h5 := needS_f h4
  unfold srcA at h5
  have j0 : (⟨0, 0⟩ : St).i < T.length := hT.pos
  have hp := needS_ok h5 hT j0
  have i1 : (srcA T).i < T.length := in_needS hT j0
  have hq := needS_ok h4 hT i1
  have i2 := in_needS (kind := 3) (text := []) hT i1
  have hr := needS_ok h3 hT i2
  have i3 := in_srcC hT
  have i4 := in_bsS hT T.length _ i3
  have ht := needS_ok h1 hT i4
  obtain ⟨a1, a2, a3⟩ := takeS_wt hp (by decide)
  obtain ⟨b1, b2, b3⟩ := takeS_wt hq (by decide)
  obtain ⟨c1, c2, c3⟩ := takeS_wt hr (by decide)
  obtain ⟨d1, d2, d3⟩ := takeS_wt ht (by decide)
  have v := bs_wt hT T.length _ i3 h2
  have hA : wt T (srcA T).i = wt T 0 + 2 * (tk T 0).2.1.length + 12 := a2
  have hC : wt T (srcC T).i = wt T (needS T (srcA T) 3 []).i + 2 * (tk T (needS T (srcA T) 3 []).i).2.1.length + 12 := c2
  have hin := in_needS (kind := 4) (text := [125]) hT i4
  have hm := wt_mono (T := T) (Nat.le_of_lt hin)
  have q := quoteL_len (tk T (srcA T).i).2.1
  unfold srcL srcT
  simp only [List.length_append, List.length_cons, List.length_nil, b3]
  have h0 : wt T 0 = 0 := rfl
  omega
theorem wt_sum : ∀ (i : Nat), wt T i = 2 * sumL (T.take i) + 12 * (min i T.length) + 12 * (i - T.length) := by
  intro i
  induction i with
  | zero => simp [wt, sumL]
  | succ i ih =>
    show wt T i + 2 * (tk T i).2.1.length + 12 = _
    rw [ih]
    by_cases hi : i < T.length
    · have e : sumL (T.take (i + 1)) = sumL (T.take i) + (tk T i).2.1.length := by
        rw [List.take_succ_eq_append_getElem hi]
        unfold sumL tk
        rw [List.map_append, List.sum_append, List.getD_eq_getElem?_getD, List.getElem?_eq_getElem hi]
        simp
      rw [e]
      omega
    · have e1 : T.take (i + 1) = T := List.take_of_length_le (by omega)
      have e2 : T.take i = T := List.take_of_length_le (by omega)
      have e3 : tk T i = tok0 := by unfold tk; rw [List.getD_eq_getElem?_getD, List.getElem?_eq_none (by omega)]; rfl
      rw [e1, e2, e3]
      show _ + 2 * 0 + 12 = _
      omega
end

end Go.Proofs.Ythdcgplocdehjaa
