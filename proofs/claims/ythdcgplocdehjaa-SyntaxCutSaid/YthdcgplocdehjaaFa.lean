/- The plain law of Parse: both parses agree. -/
import Derived.Test.YthdcgplocdehjaaZH
namespace Go.Proofs.Ythdcgplocdehjaa
open Go.RowKit Go.Proofs.Kit

section
variable {T : List Tok}
theorem in_next (hT : TOk T) {s : St} {kind : Int} {text : List UInt8} (hi : s.i < T.length) (h : isP T s kind text = true) : (nextP s kind).i < T.length := by
  unfold nextP
  split
  · exact hi
  · rename_i h5
    exact hT.last s.i hi (by rw [(isP_kind h).2]; exact h5)
theorem in_needS (hT : TOk T) {s : St} {kind : Int} {text : List UInt8} (hi : s.i < T.length) : (needS T s kind text).i < T.length := by
  cases h : isP T s kind text
  · rw [needS_no h, failP_i]; exact hi
  · rw [needS_yes h]; exact in_next hT hi h
theorem in_takeS (hT : TOk T) {s : St} {kind : Int} {text : List UInt8} (hi : s.i < T.length) : (takeS T s kind text).i < T.length := by
  cases h : isP T s kind text
  · rw [takeS_no h]; exact hi
  · rw [takeS_yes h]; exact in_next hT hi h
theorem in_valS (hT : TOk T) {s : St} (hi : s.i < T.length) : (valS T s).i < T.length := by
  unfold valS
  split
  · exact in_takeS hT hi
  · split
    · exact in_takeS hT hi
    · split
      · exact in_needS hT (in_takeS hT (in_needS hT hi))
      · exact in_needS hT hi
theorem in_comS (hT : TOk T) : ∀ (f : Nat) (s : St), s.i < T.length → (comS T f s).i < T.length := by
  intro f
  induction f with
  | zero => intro s h; exact h
  | succ f ih =>
    intro s h
    unfold comS
    split
    · exact ih _ (in_valS hT (in_takeS hT h))
    · exact h
theorem in_fldS (hT : TOk T) {s : St} (hi : s.i < T.length) : (fldS T s).i < T.length := by
  unfold fldS
  exact in_needS hT (in_comS hT _ _ (in_valS hT (in_needS hT hi)))
theorem in_fsS (hT : TOk T) : ∀ (f : Nat) (s : St), s.i < T.length → (fsS T f s).i < T.length := by
  intro f
  induction f with
  | zero => intro s h; exact h
  | succ f ih =>
    intro s h
    unfold fsS
    split
    · exact ih _ (in_fldS hT h)
    · exact h
theorem in_blk3 (hT : TOk T) {s : St} (hi : s.i < T.length) : (blk3 T s).i < T.length := by
  unfold blk3
  exact in_needS hT (in_takeS hT (in_needS hT hi))
theorem in_blkS (hT : TOk T) {s : St} (hi : s.i < T.length) : (blkS T s).i < T.length := by
  unfold blkS
  exact in_needS hT (in_fsS hT _ _ (in_blk3 hT hi))

theorem isP_other {s : St} {k1 k2 : Int} {t1 t2 : List UInt8} (h : isP T s k1 t1 = true) (hne : k1 ≠ k2) : isP T s k2 t2 = false := by
  cases h2 : isP T s k2 t2
  · rfl
  · exact absurd ((isP_kind h).2.symm.trans (isP_kind h2).2) hne
theorem goesOn_word {s : St} (h : isP T s 1 [] = true) : goesOn T s = true := by
  unfold goesOn
  rw [isP_other h (by decide), (isP_kind h).1]; rfl
theorem goesOn_bad {s : St} (h : s.f ≠ 0) : goesOn T s = false := by
  unfold goesOn
  rw [show (s.f == 0) = false by rw [beq_eq_false_iff_ne]; exact h]; rfl
theorem goesOn_end {s : St} (h : isP T s 4 [125] = true) : goesOn T s = false := by
  unfold goesOn
  rw [h]; simp
theorem goesOn_else {s : St} (h0 : s.f = 0) (h : isP T s 4 [125] = false) : goesOn T s = true := by
  unfold goesOn
  rw [h, h0]; rfl
theorem rfldT_eq {s : St} (h : isP T s 1 [] = true) : rfldT T s = fldT T s := by
  unfold rfldT fldT
  rw [takeT_yes h]

theorem fields_same (hT : TOk T) : ∀ (fu : Nat) (s : St) (fr : Nat), s.i < T.length → T.length ≤ fu + s.i → (s.f = 0 → T.length + 1 ≤ fr + s.i) →
    needS T (rfsS T fr s) 4 [125] = needS T (fsS T fu s) 4 [125] ∧ ((needS T (fsS T fu s) 4 [125]).f = 0 → rfsT T fr s = fsT T fu s) := by
  intro fu
  induction fu with
  | zero => intro s fr hi h; omega
  | succ fu ih =>
    intro s fr hi hfu hfr
    cases hw : isP T s 1 []
    · obtain ⟨e1, e2⟩ := fsT_no (f := fu + 1) hw
      rw [e1, e2]
      by_cases hf : s.f = 0
      · cases hm : isP T s 4 [125]
        · obtain ⟨m, rfl⟩ : ∃ m, fr = m + 1 := ⟨fr - 1, by have := hfr hf; omega⟩
          have hF := failP_f (s := s) hT hi
          obtain ⟨e3, e4⟩ := rfsT_yes (f := m) (goesOn_else hf hm)
          rw [e4, fldS_no hT hi hw, (rfsT_no (goesOn_bad hF)).2, needS_bad hF, needS_no hm]
          exact ⟨rfl, fun h => absurd h hF⟩
        · obtain ⟨e3, e4⟩ := rfsT_no (f := fr) (goesOn_end hm)
          rw [e3, e4]
          exact ⟨rfl, fun _ => rfl⟩
      · obtain ⟨e3, e4⟩ := rfsT_no (f := fr) (goesOn_bad (T := T) hf)
        rw [e3, e4]
        exact ⟨rfl, fun _ => rfl⟩
    · have hf := (isP_kind hw).1
      obtain ⟨m, rfl⟩ : ∃ m, fr = m + 1 := ⟨fr - 1, by have := hfr hf; omega⟩
      obtain ⟨e1, e2⟩ := fsT_yes (f := fu) hw
      obtain ⟨e3, e4⟩ := rfsT_yes (f := m) (goesOn_word hw)
      have hmore := fldS_more hw
      have h0 := hfr hf
      obtain ⟨i1, i2⟩ := ih (fldS T s) m (in_fldS hT hi) (by omega) (fun _ => by omega)
      rw [e1, e2, e3, e4]
      exact ⟨i1, fun h => by rw [i2 h, rfldT_eq hw]⟩

theorem fsS_bad {f : Nat} {s : St} (h : s.f ≠ 0) : fsS T f s = s := (fsT_no (isP_fault h)).2
theorem bsS_bad {f : Nat} {s : St} (h : s.f ≠ 0) : bsS T f s = s := (bsT_no (isP_fault h)).2
theorem blkS_no (hT : TOk T) {s : St} (hi : s.i < T.length) (h : isP T s 1 [] = false) : blkS T s = failP T s := by
  have hf := failP_f (s := s) hT hi
  have e : needS T s 1 [] = failP T s := needS_no h
  unfold blkS
  rw [blk3_bad (by rw [e]; exact hf), e, fsS_bad hf, needS_bad hf]
theorem block_same (hT : TOk T) {s : St} (hi : s.i < T.length) : rblkS T s = blkS T s ∧ (isP T s 1 [] = true → (blkS T s).f = 0 → rblkT T s = blkT T s) := by
  obtain ⟨h1, h2⟩ := fields_same hT T.length (blk3 T s) (T.length + 1) (in_blk3 hT hi) (by omega) (fun _ => by omega)
  refine ⟨h1, fun hw hf => ?_⟩
  unfold rblkT blkT
  rw [h2 hf, takeT_yes hw]
theorem blocks_same (hT : TOk T) : ∀ (fu : Nat) (s : St) (fr : Nat), s.i < T.length → T.length ≤ fu + s.i → (s.f = 0 → T.length + 1 ≤ fr + s.i) →
    needS T (rbsS T fr s) 4 [125] = needS T (bsS T fu s) 4 [125] ∧ ((needS T (bsS T fu s) 4 [125]).f = 0 → rbsT T fr s = bsT T fu s) := by
  intro fu
  induction fu with
  | zero => intro s fr hi h; omega
  | succ fu ih =>
    intro s fr hi hfu hfr
    cases hw : isP T s 1 []
    · obtain ⟨e1, e2⟩ := bsT_no (f := fu + 1) hw
      rw [e1, e2]
      by_cases hf : s.f = 0
      · cases hm : isP T s 4 [125]
        · obtain ⟨m, rfl⟩ : ∃ m, fr = m + 1 := ⟨fr - 1, by have := hfr hf; omega⟩
          have hF := failP_f (s := s) hT hi
          obtain ⟨e3, e4⟩ := rbsT_yes (f := m) (goesOn_else hf hm)
          rw [e4, rblkS_no hT hi hw, (rbsT_no (goesOn_bad hF)).2, needS_bad hF, needS_no hm]
          exact ⟨rfl, fun h => absurd h hF⟩
        · obtain ⟨e3, e4⟩ := rbsT_no (f := fr) (goesOn_end hm)
          rw [e3, e4]
          exact ⟨rfl, fun _ => rfl⟩
      · obtain ⟨e3, e4⟩ := rbsT_no (f := fr) (goesOn_bad (T := T) hf)
        rw [e3, e4]
        exact ⟨rfl, fun _ => rfl⟩
    · have hf := (isP_kind hw).1
      obtain ⟨m, rfl⟩ : ∃ m, fr = m + 1 := ⟨fr - 1, by have := hfr hf; omega⟩
      obtain ⟨e1, e2⟩ := bsT_yes (f := fu) hw
      obtain ⟨e3, e4⟩ := rbsT_yes (f := m) (goesOn_word hw)
      have hmore := blkS_more hw
      have h0 := hfr hf
      obtain ⟨b1, b2⟩ := block_same hT hi
      obtain ⟨i1, i2⟩ := ih (blkS T s) m (in_blkS hT hi) (by omega) (fun _ => by omega)
      rw [e1, e2, e3, e4, b1]
      refine ⟨i1, fun h => ?_⟩
      have hb : (blkS T s).f = 0 := by
        by_cases hb : (blkS T s).f = 0
        · exact hb
        · rw [bsS_bad hb, needS_bad hb] at h
          exact absurd h hb
      rw [i2 h, b2 hw hb]
theorem in_srcC (hT : TOk T) : (srcC T).i < T.length := by
  unfold srcC srcA
  exact in_needS hT (in_needS hT (in_needS hT hT.pos))
theorem parse_same (hT : TOk T) : rsrcS T = srcS T ∧ ((srcS T).f = 0 → rsrcT T = srcT T) := by
  obtain ⟨h1, h2⟩ := blocks_same hT T.length (srcC T) (T.length + 1) (in_srcC hT) (by omega) (fun _ => by omega)
  refine ⟨by unfold rsrcS srcS; rw [h1], fun h => ?_⟩
  have hf : (needS T (bsS T T.length (srcC T)) 4 [125]).f = 0 := by
    by_cases hb : (needS T (bsS T T.length (srcC T)) 4 [125]).f = 0
    · exact hb
    · unfold srcS at h
      rw [needS_bad hb] at h
      exact absurd h hb
  unfold rsrcT srcT
  rw [h2 hf]
end

end Go.Proofs.Ythdcgplocdehjaa
