/- Bytes: reversal, the zeros ahead. No program in sight. -/
import Derived.Test.YteobjelenfjifaaDoorNr
namespace Go.Proofs.Nums

def bat (l : List UInt8) (p : Nat) : UInt8 := l.getD p 0
theorem bat_lt {l : List UInt8} {i : Nat} (h : i < l.length) : bat l i = l[i] := by unfold bat; rw [List.getD_eq_getElem?_getD, List.getElem?_eq_getElem h]; rfl

def swapB (l : List UInt8) (i j : Nat) : List UInt8 := (l.set i (bat l j)).set j (bat l i)

theorem swapB_len (l : List UInt8) (i j : Nat) : (swapB l i j).length = l.length := by unfold swapB; simp

theorem swapB_at {l : List UInt8} {i j p : Nat} (hi : i < l.length) (hj : j < l.length) (hp : p < l.length) :
    bat (swapB l i j) p = if p = j then bat l i else if p = i then bat l j else bat l p := by
  rw [bat_lt (by rw [swapB_len]; exact hp)]
  unfold swapB
  simp only [List.getElem_set]
  by_cases h1 : p = j
  · subst h1; simp
  · by_cases h2 : p = i
    · subst h2; simp [h1, Ne.symm h1]
    · rw [if_neg (Ne.symm h1), if_neg (Ne.symm h2), if_neg h1, if_neg h2, bat_lt hp]

/-- k steps of the reversal. -/
def Rev (xs ys : List UInt8) (k : Nat) : Prop := ys.length = xs.length ∧ ∀ p, p < xs.length → bat ys p = if p < k ∨ xs.length ≤ p + k then bat xs (xs.length - 1 - p) else bat xs p

theorem Rev.start (xs : List UInt8) : Rev xs xs 0 := ⟨rfl, fun p hp => by rw [if_neg (by omega)]⟩

theorem Rev.step {xs ys : List UInt8} {k : Nat} (h : Rev xs ys k) (hk : 2 * k + 1 < xs.length) : Rev xs (swapB ys k (xs.length - 1 - k)) (k + 1) := by
  obtain ⟨hl, hh⟩ := h
  refine ⟨by rw [swapB_len, hl], fun p hp => ?_⟩
  rw [swapB_at (by omega) (by omega) (by omega), hh k (by omega), hh _ (by omega), hh p hp]
  rw [if_neg (by omega : ¬ (k < k ∨ xs.length ≤ k + k)), if_neg (by omega : ¬ (xs.length - 1 - k < k ∨ xs.length ≤ xs.length - 1 - k + k))]
  by_cases h1 : p = xs.length - 1 - k
  · rw [if_pos h1, if_pos (by omega)]; congr 1; omega
  · rw [if_neg h1]
    by_cases h2 : p = k
    · rw [if_pos h2, if_pos (by omega)]; congr 1; omega
    · rw [if_neg h2]
      by_cases h3 : p < k ∨ xs.length ≤ p + k
      · rw [if_pos h3, if_pos (by omega)]
      · rw [if_neg h3, if_neg (by omega)]

theorem Rev.done {xs ys : List UInt8} {k : Nat} (h : Rev xs ys k) (hk : ¬ 2 * k + 1 < xs.length) : ys = xs.reverse := by
  obtain ⟨hl, hh⟩ := h
  refine List.ext_getElem (by simp [hl]) fun p h1 h2 => ?_
  have := hh p (by omega)
  rw [← bat_lt, this, List.getElem_reverse, ← bat_lt (i := xs.length - 1 - p)]
  by_cases h3 : p < k ∨ xs.length ≤ p + k
  · rw [if_pos h3]
  · rw [if_neg h3]; congr 1; omega

end Go.Proofs.Nums
