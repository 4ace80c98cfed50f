/- The lexer's tokens are what the parser asks; the row of tokens. -/
import Derived.Test.YthdcgplocdehjaaSh
namespace Go.Proofs.Ythdcgplocdehjaa
open Go.RowKit Go.Proofs.Kit

theorem strL_txt : ∀ (m : Nat) (l t : List UInt8) (n : Nat), l.length ≤ m → strL l = some (t, n) → t.length ≤ l.length := by
  intro m
  induction m with
  | zero => intro l t n hl h; cases l with
    | nil => simp [strL] at h
    | cons a r => simp at hl
  | succ m ih =>
    intro l t n hl h
    cases l with
    | nil => simp [strL] at h
    | cons c r =>
      unfold strL at h
      split at h
      · simp at h; rw [h.1]; simp
      · split at h
        · cases r with
          | nil => simp at h
          | cons d r' =>
            simp only [] at h
            split at h
            · cases hs : strL r' with
              | none => rw [hs] at h; simp at h
              | some x =>
                rw [hs] at h; simp at h
                have := ih r' x.1 x.2 (by simp at hl; omega) hs
                rw [← h.1]; simp; omega
            · simp at h
        · split at h
          · cases hs : strL r with
            | none => rw [hs] at h; simp at h
            | some x =>
              rw [hs] at h; simp at h
              have := ih r x.1 x.2 (by simp at hl; omega) hs
              rw [← h.1]; simp; omega
          · simp at h
theorem nextL_txt {l t : List UInt8} {k : Int} {n : Nat} (h : nextL l = some (k, t, n)) : t.length ≤ l.length ∧ k ≠ 5 := by
  unfold nextL at h
  split at h
  · simp at h; rw [← h.2.1, ← h.1]; exact ⟨by simp; omega, by decide⟩
  · split at h
    · simp at h; rw [← h.2.1, ← h.1]; exact ⟨by simp; omega, by decide⟩
    · split at h
      · simp at h
      · split at h
        · rename_i c r _ _ _
          cases hs : strL r with
          | none => rw [hs] at h; simp at h
          | some x =>
            rw [hs] at h; simp at h
            have := strL_txt _ r x.1 x.2 (Nat.le_refl _) hs
            rw [← h.2.1, ← h.1]; exact ⟨by simp; omega, by decide⟩
        · split at h
          · simp at h; rw [← h.2.1, ← h.1]; exact ⟨by simp, by decide⟩
          · simp at h
/-- What the lexer hands back, from a line on. -/
structure LexOk (line : Nat) (l : List UInt8) (T : List Tok) : Prop where
  pos : 0 < T.length
  num : T.length ≤ l.length + 1
  last : ∀ i, i < T.length → (tk T i).1 ≠ 5 → i + 1 < T.length
  line : ∀ i, i < T.length → line ≤ (tk T i).2.2 ∧ (tk T i).2.2 ≤ line + l.length
  size : ∀ i, i < T.length → (tk T i).2.1.length ≤ l.length
theorem lexL_ok : ∀ (f line : Nat) (l : List UInt8) (T : List Tok), lexL f line l = .ok T → LexOk line l T := by
  intro f
  induction f with
  | zero => intro line l T h; simp [lexL] at h
  | succ f ih =>
    intro line l T h
    have hsk := skipF_le false l
    have hcnt : (l.take (skipF false l)).count 10 ≤ skipF false l := Nat.le_trans List.count_le_length (by rw [List.length_take]; omega)
    unfold lexL at h
    split at h
    · have e : T = [(5, [], line + (l.take (skipF false l)).count 10)] := by simpa using h.symm
      subst e
      refine ⟨by simp, by simp, fun i hi hk => ?_, fun i hi => ?_, fun i hi => ?_⟩
      · have : i = 0 := by simpa using hi
        subst this
        exact absurd rfl hk
      · have : i = 0 := by simpa using hi
        subst this
        show line ≤ line + _ ∧ line + _ ≤ line + l.length
        omega
      · have : i = 0 := by simpa using hi
        subst this
        show 0 ≤ l.length
        omega
    · split at h
      · simp at h
      · rename_i k t n hn
        obtain ⟨h1, h2⟩ := nextL_len hn
        obtain ⟨h3, h4⟩ := nextL_txt hn
        rw [List.length_drop] at h2 h3
        cases hr : lexL f (line + (l.take (skipF false l)).count 10) ((l.drop (skipF false l)).drop n) with
        | error x => rw [hr] at h; simp [Except.map] at h
        | ok r =>
          rw [hr] at h
          have e : T = (k, t, line + (l.take (skipF false l)).count 10) :: r := by simpa [Except.map] using h.symm
          have g := ih _ _ _ hr
          subst e
          have hl2 : ((l.drop (skipF false l)).drop n).length + n + skipF false l = l.length := by rw [List.length_drop, List.length_drop]; omega
          refine ⟨by simp, by have := g.num; simp; omega, fun i hi hk => ?_, fun i hi => ?_, fun i hi => ?_⟩
          · cases i with
            | zero => have := g.pos; simp; omega
            | succ i =>
              have := g.last i (by simpa using hi) hk
              simp; omega
          · cases i with
            | zero =>
              show line ≤ line + _ ∧ line + _ ≤ line + l.length
              omega
            | succ i =>
              have := g.line i (by simpa using hi)
              show line ≤ (tk r i).2.2 ∧ (tk r i).2.2 ≤ line + l.length
              omega
          · cases i with
            | zero => show t.length ≤ l.length; omega
            | succ i =>
              have := g.size i (by simpa using hi)
              show (tk r i).2.1.length ≤ l.length
              omega
theorem LexOk.tok {l : List UInt8} {T : List Tok} (h : LexOk 1 l T) (hl : l.length ≤ 20000) : TOk T :=
  ⟨h.pos, by have := h.num; omega, h.last, fun i hi => by have := h.line i hi; omega, fun i hi => Nat.le_trans (h.size i hi) hl⟩
theorem flatMap_cell {T : List Tok} {k j : Nat} (hk : k < T.length) (hj : j < 3) : (T.flatMap tokCells)[k * 3 + j]? = (tokCells (tk T k))[j]? := by
  induction T generalizing k with
  | nil => simp at hk
  | cons a T ih =>
    rw [List.flatMap_cons]
    cases k with
    | zero =>
      rw [List.getElem?_append_left (by show 0 * 3 + j < 3; omega), Nat.zero_mul, Nat.zero_add]; rfl
    | succ k =>
      rw [List.getElem?_append_right (by show 3 ≤ (k + 1) * 3 + j; omega), show (k + 1) * 3 + j - (tokCells a).length = k * 3 + j by show (k + 1) * 3 + j - 3 = _; omega]
      exact ih (by simpa using hk)
/-- The row of tokens reads; a parser laid over it. -/
theorem Prs.start {B base : Nat} {v : Value} {T : List Tok} {w : World} (hT : TOk T) (ho : w.ownsRow base 47 3 v T.length (T.flatMap tokCells)) :
    ∃ g cap, v = .slice (some ⟨g, 0, none⟩) T.length cap ∧ base ≤ g ∧ g < w.heap.size ∧ (∀ W, Below w.heap.size w W → Bk B #[v, .int .i64 0, .int .i64 0] W → w.heap.size ≤ B → Prs B g T.length cap T ⟨0, 0⟩ W) := by
  rcases ho.2 with ⟨_, hn⟩ | ⟨g, cap, cur, rfl, hg, hgg, hc, hm, hs, ht⟩
  · have := hT.pos; omega
  · have hlt := (Array.getElem?_eq_some_iff.1 hgg).1
    refine ⟨g, cap, rfl, hg, hlt, fun W hb hB hle => ⟨hB, fun k hk => ?_, by omega, Nat.lt_of_lt_of_le hlt hb.size, hT.pos, rfl, hc, by unfold maxLen at hm; omega⟩⟩
    have key : ∀ j, j < 3 → W.cell? ⟨g, k * 3 + j, none⟩ = (tokCells (tk T k))[j]? := fun j hj => by
      have h1 : W.cell? ⟨g, k * 3 + j, none⟩ = w.cell? ⟨g, k * 3 + j, none⟩ := World.cell?_of_block (a := ⟨g, k * 3 + j, none⟩) (hb.block g hlt)
      rw [h1, ho.cellAt (k * 3 + j) (by omega), flatMap_cell hk hj]
    exact ⟨key 0 (by omega), key 1 (by omega), key 2 (by omega)⟩

end Go.Proofs.Ythdcgplocdehjaa
