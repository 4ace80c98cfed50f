import Derived.Test.YtcjgilfbcoadjaaWh
namespace Go.Proofs.Ytcjgilfbcoadjaa
open Go.RowKit Go.Proofs.Kit

def tokEq (lines : Bool) (a b : Tok) : Bool := (a.1 == b.1) && (a.2.1 == b.2.1) && (!lines || ((a.2.2 : Int) == (b.2.2 : Int)))
def eqT (lines : Bool) : List Tok → List Tok → Bool
  | [], [] => true
  | a :: r, b :: t => tokEq lines a b && eqT lines r t
  | _, _ => false

theorem eqT_len (lines : Bool) : ∀ (A B : List Tok), A.length ≠ B.length → eqT lines A B = false
  | [], [], h => absurd rfl h
  | [], _ :: _, _ => rfl
  | _ :: _, [], _ => rfl
  | a :: r, b :: t, h => by unfold eqT; rw [eqT_len lines r t (by simpa using h)]; simp

theorem eqT_drop (lines : Bool) : ∀ (A B : List Tok) (k : Nat), A.length = B.length → (∀ j (h : j < A.length) (h' : j < B.length), j < k → tokEq lines A[j] B[j] = true) →
    eqT lines A B = eqT lines (A.drop k) (B.drop k)
  | A, B, 0, _, _ => rfl
  | [], [], k + 1, _, _ => rfl
  | [], _ :: _, k + 1, h, _ => by simp at h
  | _ :: _, [], k + 1, h, _ => by simp at h
  | a :: r, b :: t, k + 1, h, hh => by
    have h0 := hh 0 (by simp) (by simp) (by omega)
    simp at h0
    rw [List.drop_succ_cons, List.drop_succ_cons, ← eqT_drop lines r t k (by simpa using h) (fun j h1 h2 hj => by have := hh (j+1) (by simp; omega) (by simp; omega) (by omega); simpa using this)]
    conv => lhs; unfold eqT
    rw [h0]; rfl

theorem tokCells_len (x : Tok) : (tokCells x).length = 3 := rfl

set_option maxHeartbeats 4000000 in
theorem eq_any (A B : List Tok) (va vb : Value) (lines : Bool) (b1 b2 : Nat) (w : World) (hA : w.ownsRow b1 38 3 va A.length (A.flatMap tokCells)) (hB : w.ownsRow b2 38 3 vb B.length (B.flatMap tokCells))
    (la : A.length ≤ 1000000) (lb : B.length ≤ 1000000) :
    Calls Try.prog 13 #[va, vb, .bool lines] w fun e w' => e = .returned (.bool (eqT lines A B)) ∧ Below w.heap.size w w' := by
  have shape : ∀ (X : List Tok) (v : Value) (b : Nat), w.ownsRow b 38 3 v X.length (X.flatMap tokCells) → ∃ p c, v = .slice p X.length c ∧ (0 < X.length → ∃ g, p = some ⟨g, 0, none⟩ ∧ X.length ≤ c ∧
      ∀ k (h : k < X.length), w.cell? ⟨g, k * 3, none⟩ = some (.int .i64 X[k].1) ∧ w.cell? ⟨g, k * 3 + 1, none⟩ = some (.string ⟨X[k].2.1.toArray⟩) ∧ w.cell? ⟨g, k * 3 + 2, none⟩ = some (.int .i64 X[k].2.2)) := by
    intro X v b h
    rcases ownsRow_cases h with ⟨rfl, h0⟩ | ⟨g, cap, rfl, _, hc, hcell⟩
    · exact ⟨none, 0, by rw [h0], fun h => by omega⟩
    · refine ⟨_, _, rfl, fun _ => ⟨g, rfl, hc, fun k hk => ⟨?_, ?_, ?_⟩⟩⟩
      · rw [hcell _ (by omega)]; exact flatMap_at tokCells 3 tokCells_len X k 0 hk (by omega)
      · rw [hcell _ (by omega)]; exact flatMap_at tokCells 3 tokCells_len X k 1 hk (by omega)
      · rw [hcell _ (by omega)]; exact flatMap_at tokCells 3 tokCells_len X k 2 hk (by omega)
  obtain ⟨pa, ca, rfl, HA⟩ := shape A va b1 hA
  obtain ⟨pb, cb, rfl, HB⟩ := shape B vb b2 hB
  clear shape hA hB
  by_cases hn : A.length = B.length
  · by_cases h0 : 0 < A.length
    · obtain ⟨ga, rfl, hca, hcA⟩ := HA h0
      obtain ⟨gb, rfl, hcb, hcB⟩ := HB (by omega)
      have HCA := Lib.hid hcA
      have HCB := Lib.hid hcB
      have HN := Lib.hid hn
      clear hcA hcB HA HB
      rw [← hn] at hcb ⊢
      clear hn
      go_enter Try.func13, Try.ntmps13
      go_wp2_with fail
      go_loopw [7] (fun i wr => ∃ k : Nat, k ≤ A.length ∧ i = .int .i64 k ∧ (∃ n, wr = w.drewN n) ∧ Hid (∀ j (h : j < A.length) (h' : j < B.length), j < k → tokEq lines A[j] B[j] = true)) (fun i _ => A.length - (intOf i).toNat)
      case atStart => exact ⟨0, by omega, rfl, ⟨0, rfl⟩, Lib.hid fun _ _ _ h => absurd h (by omega)⟩
      case round =>
        obtain ⟨k, hk, rfl, ⟨n, rfl⟩, hP⟩ := hrel
        by_cases hlt : k < A.length
        · obtain ⟨x, hx⟩ : ∃ x, x = A[k] := ⟨_, rfl⟩
          obtain ⟨y, hy⟩ : ∃ y, y = B[k]'(by rw [← HN.out]; exact hlt) := ⟨_, rfl⟩
          obtain ⟨S, hS⟩ : ∃ S : ByteArray, S = ⟨x.2.1.toArray⟩ := ⟨_, rfl⟩
          obtain ⟨T, hT⟩ : ∃ T : ByteArray, T = ⟨y.2.1.toArray⟩ := ⟨_, rfl⟩
          obtain ⟨a0, a1, a2⟩ := HCA.out k hlt
          obtain ⟨c0, c1, c2⟩ := HCB.out k (by rw [← HN.out]; exact hlt)
          rw [← hx] at a0 a1 a2
          rw [← hy] at c0 c1 c2
          rw [← hS] at a1
          rw [← hT] at c1
          have hnext : tokEq lines x y = true → Hid (∀ j (h : j < A.length) (h' : j < B.length), j < k + 1 → tokEq lines A[j] B[j] = true) := fun h => Lib.hid fun j h1 h2 hj => by
            by_cases hjk : j < k
            · exact hP.out j h1 h2 hjk
            · obtain rfl : j = k := by omega
              rw [← hx, ← hy]; exact h
          have hbad : tokEq lines x y = false → Hid (eqT lines A B = false) := fun h => Lib.hid (by
            have h2 : k < B.length := by rw [← HN.out]; exact hlt
            rw [eqT_drop lines A B k HN.out hP.out, List.drop_eq_getElem_cons hlt, List.drop_eq_getElem_cons h2]
            unfold eqT; rw [← hx, ← hy, h]; rfl)
          have hST : tokEq lines x y = ((x.1 == y.1) && (S.toList == T.toList) && (!lines || ((x.2.2 : Int) == (y.2.2 : Int)))) := by
            unfold tokEq; rw [hS, hT, Lib.toList_data, Lib.toList_data]
          have HST := Lib.hid hST
          have HNX := Lib.hid hnext
          have HBD := Lib.hid hbad
          clear hx hy hS hT hnext hbad hST
          cases d1 : (x.1 != y.1)
          · cases d2 : (S.toList == T.toList)
            · have HB2 := HBD.out (by rw [HST.out, d2]; simp)
              go_wp2_with fail
              go_quiet (fail)
              go_wp2_with fail
              go_ret
              exact ⟨ret_bool (by rw [HB2.out]), below_drewN (below_drewN (Below.refl _ _) _) _⟩
            · cases lines
              · have HN2 := HNX.out (by rw [HST.out, d2]; simp at d1; simp [d1])
                go_wp2_with fail
                go_quiet (fail)
                go_wp2_with fail
                go_roundw
                case rel => exact ⟨k + 1, by omega, by go_num, ⟨n + nq, by first | rfl | exact World.drewN_drewN _ _ _⟩, HN2⟩
                case measure => simp [intOf]; omega
              · cases d3 : ((x.2.2 : Int) != (y.2.2 : Int))
                · have HN2 := HNX.out (by rw [HST.out, d2]; simp at d1 d3; simp [d1, d3])
                  go_wp2_with fail
                  go_quiet (fail)
                  go_wp2_with fail
                  go_roundw
                  case rel => exact ⟨k + 1, by omega, by go_num, ⟨n + nq, by first | rfl | exact World.drewN_drewN _ _ _⟩, HN2⟩
                  case measure => simp [intOf]; omega
                · have HB2 := HBD.out (by rw [HST.out, d2]; simp at d3; simp; omega)
                  go_wp2_with fail
                  go_quiet (fail)
                  go_wp2_with fail
                  go_ret
                  exact ⟨ret_bool (by rw [HB2.out]), below_drewN (below_drewN (Below.refl _ _) _) _⟩
          · have HB2 := HBD.out (by rw [HST.out]; simp at d1; simp [d1])
            go_wp2_with fail
            go_quiet (fail)
            go_wp2_with fail
            go_ret
            exact ⟨ret_bool (by rw [HB2.out]), below_drewN (below_drewN (Below.refl _ _) _) _⟩
        · have HE : Hid (eqT lines A B = true) := Lib.hid (by
            rw [eqT_drop lines A B A.length HN.out (fun j h h' _ => hP.out j h h' (by omega)), List.drop_length, HN.out, List.drop_length]; rfl)
          go_wp2_with fail
          go_ret
          exact ⟨ret_bool (by rw [HE.out]), below_drewN (Below.refl _ _) _⟩
    · have eA : A = [] := List.eq_nil_of_length_eq_zero (by omega)
      have eB : B = [] := List.eq_nil_of_length_eq_zero (by omega)
      subst eA
      subst eB
      clear HA HB h0 hn
      go_enter Try.func13, Try.ntmps13
      go_wp2_with fail
      refine wp_loop_rounds 1 ?_
      rw [rounds_succ]
      go_wp2_with fail
      go_ret
      exact ⟨rfl, Below.refl _ _⟩
  · have HE := Lib.hid (eqT_len lines A B hn)
    have b1 : ((A.length : Int) != (B.length : Int)) = true := by rw [bne_iff_ne]; omega
    clear HA HB hn
    go_enter Try.func13, Try.ntmps13
    go_wp2_with fail
    go_ret
    exact ⟨ret_bool (by rw [HE.out]), Below.refl _ _⟩

end Go.Proofs.Ytcjgilfbcoadjaa
