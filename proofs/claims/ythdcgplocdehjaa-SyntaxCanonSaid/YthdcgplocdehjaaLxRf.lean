import Derived.Test.YthdcgplocdehjaaLxWh
namespace Go.Proofs.Ythdcgplocdehjaa
open Go.RowKit Go.Proofs.Kit

def tokEq (lines : Bool) (a b : Tok) : Bool := (a.1 == b.1) && (a.2.1 == b.2.1) && (!lines || ((a.2.2 : Int) == (b.2.2 : Int)))
def eqT (lines : Bool) : List Tok → List Tok → Bool
  | [], [] => true
  | a :: r, b :: t => tokEq lines a b && eqT lines r t
  | _, _ => false

theorem eqT_len (lines : Bool) : ∀ (A B : List Tok), A.length ≠ B.length → eqT lines A B = false
  | [], [], h => absurd rfl h
  | [], _ :: _, _ => rfl
  | _ :: _, [], _ => rfl
  | a :: r, b :: t, h => by unfold eqT; rw [eqT_len lines r t (by simpa using h)]; simp

theorem eqT_drop (lines : Bool) : ∀ (A B : List Tok) (k : Nat), A.length = B.length → (∀ j (h : j < A.length) (h' : j < B.length), j < k → tokEq lines A[j] B[j] = true) →
    eqT lines A B = eqT lines (A.drop k) (B.drop k)
  | A, B, 0, _, _ => rfl
  | [], [], k + 1, _, _ => rfl
  | [], _ :: _, k + 1, h, _ => by simp at h
  | _ :: _, [], k + 1, h, _ => by simp at h
  | a :: r, b :: t, k + 1, h, hh => by
    have h0 := hh 0 (by simp) (by simp) (by omega)
    simp at h0
    rw [List.drop_succ_cons, List.drop_succ_cons, ← eqT_drop lines r t k (by simpa using h) (fun j h1 h2 hj => by have := hh (j+1) (by simp; omega) (by simp; omega) (by omega); simpa using this)]
    conv => lhs; unfold eqT
    rw [h0]; rfl

theorem tokCells_len (x : Tok) : (tokCells x).length = 3 := rfl

end Go.Proofs.Ythdcgplocdehjaa
