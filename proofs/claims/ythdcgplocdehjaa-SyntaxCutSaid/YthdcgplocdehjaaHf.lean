/- The plain laws: round trip, canonical text. -/
import Derived.Test.YthdcgplocdehjaaZK
import Derived.Test.YthdcgplocdehjaaFb
import Derived.Test.YthdcgplocdehjaaEa
namespace Go.Proofs.Ythdcgplocdehjaa
open Go.RowKit Go.Proofs.Kit

theorem round_law {α : Type} (s : SrcA α) (h : srcOk s = true) : parseL (srcL s) = .ok (reline s) := by
  obtain ⟨h1, h2, _⟩ := P_src s h
  unfold parseL
  rw [lex_all]
  have e : refL ((srcL s).length + 1) 1 (srcL s) = .ok (srcTok s) := L_src s h
  rw [e]
  simp only []
  rw [if_pos h2, h1]
theorem canon_law {l : List UInt8} {s : Src} (hl : l.length ≤ 400) (h : parseL l = .ok s) : srcOk s = true ∧ (srcL s).length ≤ 20000 := by
  unfold parseL at h
  cases hx : lexL (l.length + 1) 1 l with
  | error n => rw [hx] at h; simp at h
  | ok T =>
    rw [hx] at h
    simp only [] at h
    by_cases hf : (srcS T).f = 0
    · rw [if_pos hf] at h
      obtain rfl : srcT T = s := by injection h
      have k := lexL_ok _ _ _ _ hx
      have hT : TOk T := k.tok (by omega)
      rw [lex_all] at hx
      obtain ⟨g1, g2⟩ := refL_tp _ _ _ _ hx
      refine ⟨srcT_ok g1, ?_⟩
      have h1 := src_wt hT hf
      rw [wt_sum, List.take_length] at h1
      have h2 := k.num
      omega
    · rw [if_neg hf] at h
      simp at h
section
variable {α : Type}
theorem relF_text : ∀ (fs : List (FldA α)) (n : Nat), (relF fs n).flatMap fieldL = fs.flatMap fieldL ∧ (relF fs n).all fieldOk = fs.all fieldOk ∧ (relF fs n).length = fs.length ∧ ((∀ f ∈ fs, SmF f) → ∀ f ∈ relF fs n, SmF f) := by
  intro fs
  induction fs with
  | nil => intro n; exact ⟨rfl, rfl, rfl, fun _ f hf => by simp [relF] at hf⟩
  | cons f fs ih =>
    intro n
    obtain ⟨i1, i2, i3, i4⟩ := ih (n + 1)
    refine ⟨?_, ?_, ?_, fun h g hg => ?_⟩
    · show ((f.1, f.2.1, n) :: relF fs (n + 1)).flatMap fieldL = _
      rw [List.flatMap_cons, List.flatMap_cons, i1]; rfl
    · show ((f.1, f.2.1, n) :: relF fs (n + 1)).all fieldOk = _
      rw [List.all_cons, List.all_cons, i2]; rfl
    · show ((f.1, f.2.1, n) :: relF fs (n + 1)).length = _
      rw [List.length_cons, List.length_cons, i3]
    · rcases List.mem_cons.1 (show g ∈ (f.1, f.2.1, n) :: relF fs (n + 1) from hg) with rfl | hg
      · exact h f (by simp)
      · exact i4 (fun x hx => h x (by simp [hx])) g hg
theorem relB_text : ∀ (bs : List (BlkA α)) (n : Nat), (relB bs n).flatMap blockL = bs.flatMap blockL ∧ (relB bs n).all blockOk = bs.all blockOk ∧ (relB bs n).length = bs.length ∧ ((∀ b ∈ bs, SmB b) → ∀ b ∈ relB bs n, SmB b) := by
  intro bs
  induction bs with
  | nil => intro n; exact ⟨rfl, rfl, rfl, fun _ f hf => by simp [relB] at hf⟩
  | cons b bs ih =>
    intro n
    obtain ⟨i1, i2, i3, i4⟩ := ih (n + 2 + b.2.2.1.length)
    obtain ⟨f1, f2, f3, f4⟩ := relF_text b.2.2.1 (n + 1)
    refine ⟨?_, ?_, ?_, fun h g hg => ?_⟩
    · show ((b.1, b.2.1, relF b.2.2.1 (n + 1), n) :: relB bs _).flatMap blockL = _
      rw [List.flatMap_cons, List.flatMap_cons, i1]
      unfold blockL headL
      simp only [f1]
    · show ((b.1, b.2.1, relF b.2.2.1 (n + 1), n) :: relB bs _).all blockOk = _
      rw [List.all_cons, List.all_cons, i2]
      unfold blockOk
      simp only [f2]
    · show ((b.1, b.2.1, relF b.2.2.1 (n + 1), n) :: relB bs _).length = _
      rw [List.length_cons, List.length_cons, i3]
    · rcases List.mem_cons.1 (show g ∈ (b.1, b.2.1, relF b.2.2.1 (n + 1), n) :: relB bs _ from hg) with rfl | hg
      · obtain ⟨s1, s2, s3, s4⟩ := h b (by simp)
        exact ⟨s1, s2, by rw [f3]; exact s3, f4 s4⟩
      · exact i4 (fun x hx => h x (by simp [hx])) g hg
theorem reline_text (s : SrcA α) : srcL (reline s) = srcL s ∧ srcOk (reline s) = srcOk s ∧ printL (reline s) = printL s ∧ (SmS s → SmS (reline s)) := by
  obtain ⟨i1, i2, i3, i4⟩ := relB_text s.2 2
  have e1 : srcL (reline s) = srcL s := by unfold srcL reline; simp only [i1]
  have e2 : srcOk (reline s) = srcOk s := by unfold srcOk reline; simp only [i2]
  refine ⟨e1, e2, by unfold printL; rw [e1, e2], fun h => ⟨h.1, by show (relB s.2 2).length ≤ 1000; rw [i3]; exact h.2.1, i4 h.2.2⟩⟩
theorem relF_get : ∀ (fs : List (FldA α)) (n j : Nat) (h : j < (relF fs n).length) (h' : j < fs.length), (relF fs n)[j] = (fs[j].1, fs[j].2.1, n + j) := by
  intro fs
  induction fs with
  | nil => intro n j _ h'; simp at h'
  | cons f fs ih =>
    intro n j h h'
    cases j with
    | zero => rfl
    | succ j =>
      show (relF fs (n + 1))[j]'_ = _
      rw [ih (n + 1) j _ (by simpa using h')]
      simp only [List.getElem_cons_succ]
      rw [show n + 1 + j = n + (j + 1) by omega]
/-- The line of a block. -/
def lineAt : List (BlkA α) → Nat → Nat → Nat
  | [], n, _ => n
  | _ :: _, n, 0 => n
  | b :: bs, n, j + 1 => lineAt bs (n + 2 + b.2.2.1.length) j
theorem relB_get : ∀ (bs : List (BlkA α)) (n j : Nat) (h : j < (relB bs n).length) (h' : j < bs.length), (relB bs n)[j] = (bs[j].1, bs[j].2.1, relF bs[j].2.2.1 (lineAt bs n j + 1), lineAt bs n j) := by
  intro bs
  induction bs with
  | nil => intro n j _ h'; simp at h'
  | cons b bs ih =>
    intro n j h h'
    cases j with
    | zero => rfl
    | succ j =>
      show (relB bs _)[j]'_ = _
      rw [ih _ j _ (by simpa using h')]
      rfl
theorem lineAt_next : ∀ (bs : List (BlkA α)) (n j : Nat) (h : j + 1 < bs.length), lineAt bs n (j + 1) = lineAt bs n j + 2 + (bs[j]'(by omega)).2.2.1.length := by
  intro bs
  induction bs with
  | nil => intro n j h; simp at h
  | cons b bs ih =>
    intro n j h
    cases j with
    | zero =>
      cases bs with
      | nil => simp at h
      | cons c cs => rfl
    | succ j =>
      show lineAt bs _ (j + 1) = lineAt bs _ j + 2 + _
      rw [ih _ j (by simpa using h)]
      rfl
theorem reline_same {la : Nat → Int} {lb : α → Int} (s : SrcA α) : SameS la lb false (reline s) s := by
  obtain ⟨i1, i2, i3, i4⟩ := relB_text s.2 2
  refine ⟨rfl, i3, fun j h h' => ?_⟩
  have e := relB_get s.2 2 j h h'
  show SameB la lb false (relB s.2 2)[j] s.2[j]
  rw [e]
  obtain ⟨f1, f2, f3, f4⟩ := relF_text s.2[j].2.2.1 (lineAt s.2 2 j + 1)
  refine ⟨rfl, rfl, fun h => by simp at h, f3, fun q hq hq' => ?_⟩
  have e2 := relF_get s.2[j].2.2.1 (lineAt s.2 2 j + 1) q hq hq'
  show SameF la lb false (relF s.2[j].2.2.1 (lineAt s.2 2 j + 1))[q] _
  rw [e2]
  exact ⟨rfl, rfl, fun h => by simp at h⟩
end

end Go.Proofs.Ythdcgplocdehjaa
