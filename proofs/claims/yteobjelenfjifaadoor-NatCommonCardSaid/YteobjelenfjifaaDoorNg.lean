import Derived.Test.YteobjelenfjifaaDoorNe
namespace Go.Proofs.YteobjelenfjifaaDoor
open Go.RowKit Go.Proofs.Kit Go.Proofs.Nums

theorem ret_v {a b : Bool} (h : a = b) : Ending.returned (.bool a) = .returned (.bool b) := by rw [h]

/-- electionref01.Eq. -/
def eqN (a b : List Nat) : Bool := decide (a = b)

theorem eqN_len {a b : List Nat} (h : a.length ≠ b.length) : eqN a b = false := by unfold eqN; simp; intro h'; exact h (by rw [h'])
theorem eqN_ne {a b : List Nat} {k : Nat} (h : nth a k ≠ nth b k) : eqN a b = false := by unfold eqN; simp; intro h'; exact h (by rw [h'])
theorem eqN_all {a b : List Nat} (h : a.length = b.length) (hh : ∀ j, j < a.length → nth a j = nth b j) : eqN a b = true := by
  unfold eqN; simp
  refine List.ext_getElem h fun i h1 h2 => ?_
  have := hh i h1
  rw [nth_lt h1, nth_lt h2] at this; exact this

set_option maxHeartbeats 2000000 in
theorem req_any (va vb : Value) (a b : List Nat) (w : World) (ha : NatAt w va a) (hb : NatAt w vb b) (hla : a.length ≤ 1000000) (_hlb : b.length ≤ 1000000) :
    Calls Tryd.prog 19 #[va, vb] w fun e w' => e = .returned (.bool (eqN a b)) ∧ Below w.heap.size w w' := by
  obtain ⟨p1, c1, rfl⟩ := ha.shape
  obtain ⟨p2, c2, rfl⟩ := hb.shape
  have HA := Lib.hid ha
  have HB := Lib.hid hb
  clear ha hb
  by_cases hl : a.length = b.length
  · have hl1 : a.length ≤ b.length := by omega
    have hl2 : b.length ≤ a.length := by omega
    have hne : ((a.length : Int) != (b.length : Int)) = false := by rw [hl]; simp
    have HL := Lib.hid hl
    clear hl
    go_enter Tryd.func19, Tryd.ntmps19
    go_wp2_with fail
    go_loopw [5] (fun i wr => ∃ k : Nat, k ≤ a.length ∧ i = .int .i64 k ∧ (∃ n, wr = w.drewN n) ∧ Hid (∀ j, j < k → nth a j = nth b j)) (fun i _ => a.length - (intOf i).toNat)
    case atStart => exact ⟨0, by omega, rfl, ⟨0, rfl⟩, Lib.hid fun _ h => absurd h (by omega)⟩
    case round =>
      obtain ⟨k, hk, rfl, ⟨n, rfl⟩, hP⟩ := hrel
      by_cases hlt : k < a.length
      · rcases HA.out.cases with ⟨hx0, _⟩ | ⟨_, b1, o1, k1, hv1, hk1, hm1, hb1, hcell1⟩
        · rw [hx0] at hlt; simp at hlt
        rcases HB.out.cases with ⟨hy0, _⟩ | ⟨_, b2, o2, k2, hv2, hk2, hm2, hb2, hcell2⟩
        · exfalso; rw [hy0] at hl1; simp only [List.length_nil] at hl1; omega
        simp only [Value.slice.injEq] at hv1 hv2
        obtain ⟨rfl, _, rfl⟩ := hv1
        obtain ⟨rfl, _, rfl⟩ := hv2
        have q1 := hcell1 k (by omega)
        have q2 := hcell2 k (by omega)
        clear hcell1 hcell2
        by_cases heq : nth a k = nth b k
        · have HEQ := Lib.hid heq
          have hb' : ((nth a k : Int) != (nth b k : Int)) = false := by rw [heq]; simp
          clear heq
          go_wp2_with fail
          go_quiet (fail)
          go_wp2_with fail
          go_roundw
          case rel =>
            refine ⟨k + 1, by omega, by go_num, ⟨_, by first | rfl | (rw [World.drewN_drewN])⟩, Lib.hid fun j hj => ?_⟩
            by_cases hjk : j < k
            · exact hP.out j hjk
            · obtain rfl : j = k := by omega
              exact HEQ.out
          case measure => simp [intOf]; omega
        · have HE := Lib.hid (eqN_ne heq)
          have hb' : ((nth a k : Int) != (nth b k : Int)) = true := by rw [bne_iff_ne]; omega
          clear heq
          go_wp2_with fail
          go_quiet (fail)
          go_wp2_with fail
          go_ret
          exact ⟨ret_v (by rw [HE.out]), below_drewN (below_drewN (Below.refl _ _) _) _⟩
      · have HE := Lib.hid (eqN_all HL.out (fun j hj => hP.out j (by omega)))
        go_wp2_with fail
        go_ret
        exact ⟨ret_v (by rw [HE.out]), below_drewN (Below.refl _ _) _⟩
  · have HE := Lib.hid (eqN_len hl)
    have hne : ((a.length : Int) != (b.length : Int)) = true := by rw [bne_iff_ne]; omega
    clear hl
    go_enter Tryd.func19, Tryd.ntmps19
    go_wp2_with fail
    go_ret
    exact ⟨ret_v (by rw [HE.out]), Below.refl _ _⟩

/-- Short. -/
theorem short_any (v : Value) (l : List Nat) (m : Nat) (w : World) (h : NatAt w v l) (hm : m ≤ 1000000) :
    Calls Tryd.prog 14 #[v, .int .i64 m] w fun e w' => ∃ v', e = .returned v' ∧ NatAt w v' (l.take m) ∧ w = w' := by
  rcases h.cases with ⟨rfl, p, cap, rfl, hc2, hc3⟩ | ⟨h1, b, off, cap, rfl, hc, hmx, hb, hcell⟩
  · clear h
    cases p with
    | none =>
      obtain rfl := hc3 rfl
      go_enter Tryd.func14, Tryd.ntmps14
      go_wp2_with fail
      go_ret
      refine ⟨_, rfl, ?_, rfl⟩
      first | exact NatAt.nil w | (rw [List.take_nil]; exact NatAt.nil w)
    | some q =>
      go_enter Tryd.func14, Tryd.ntmps14
      go_wp2_with fail
      go_ret
      refine ⟨_, rfl, ?_, rfl⟩
      try rw [List.take_nil]
      exact ⟨RowAt.empty hc2 (fun h => by simp at h), Lim.nil⟩
  · have H := Lib.hid h
    clear h hcell
    by_cases hlm : l.length ≤ m
    · have e : Hid (l.take m = l) := Lib.hid (List.take_of_length_le hlm)
      go_enter Tryd.func14, Tryd.ntmps14
      go_wp2_with fail
      go_ret
      refine ⟨_, rfl, ?_, rfl⟩
      rw [e.out]
      exact H.out
    · go_enter Tryd.func14, Tryd.ntmps14
      go_wp2_with fail
      go_ret
      refine ⟨_, rfl, ⟨?_, H.out.2.take m⟩, rfl⟩
      rw [List.map_take]
      exact RowAt.take H.out.1 m (by rw [List.length_map]; omega)

end Go.Proofs.YteobjelenfjifaaDoor
