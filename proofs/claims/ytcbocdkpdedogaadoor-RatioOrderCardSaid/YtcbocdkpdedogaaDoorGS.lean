/- electionlaw01.Short alone (of GQ), for a seat without electionlaw01.is. -/
import Derived.Test.YtcbocdkpdedogaaDoorMB
import Derived.Test.YtcbocdkpdedogaaDoorGO
import Derived.Test.YtcbocdkpdedogaaDoorGT
import Derived.Test.YtcbocdkpdedogaaDoorMV
namespace Go.Proofs.YtcbocdkpdedogaaDoor
open Go.RowKit Go.Proofs.Kit Go.Proofs.Nums

/-- Short. -/
theorem short_any (v : Value) (l : List Nat) (m : Nat) (w : World) (h : NatAt w v l) (hm : m ≤ 1000000) :
    Calls Tryd.prog 43 #[v, .int .i64 m] w fun e w' => ∃ v', e = .returned v' ∧ NatAt w v' (l.take m) ∧ w = w' := by
  rcases h.cases with ⟨rfl, p, cap, rfl, hc2, hc3⟩ | ⟨h1, b, off, cap, rfl, hc, hmx, hb, hcell⟩
  · clear h
    cases p with
    | none =>
      obtain rfl := hc3 rfl
      go_enter Tryd.func43, Tryd.ntmps43
      go_wp2_with fail
      go_ret
      refine ⟨_, rfl, ?_, rfl⟩
      first | exact NatAt.nil w | (rw [List.take_nil]; exact NatAt.nil w)
    | some q =>
      go_enter Tryd.func43, Tryd.ntmps43
      go_wp2_with fail
      go_ret
      refine ⟨_, rfl, ?_, rfl⟩
      try rw [List.take_nil]
      exact ⟨RowAt.empty hc2 (fun h => by simp at h), Lim.nil⟩
  · have H := Lib.hid h
    clear h hcell
    by_cases hlm : l.length ≤ m
    · have e : Hid (l.take m = l) := Lib.hid (List.take_of_length_le hlm)
      go_enter Tryd.func43, Tryd.ntmps43
      go_wp2_with fail
      go_ret
      refine ⟨_, rfl, ?_, rfl⟩
      rw [e.out]
      exact H.out
    · go_enter Tryd.func43, Tryd.ntmps43
      go_wp2_with fail
      go_ret
      refine ⟨_, rfl, ⟨?_, H.out.2.take m⟩, rfl⟩
      rw [List.map_take]
      exact RowAt.take H.out.1 m (by rw [List.length_map]; omega)

theorem short_num {va : Value} {a : List Nat} {w : World} (ha : NatAt w va a) (k : Nat) (hk : k ≤ 1000000) :
    ∃ n, Calls Tryd.prog 43 #[va, .int .i64 k] w fun e w' => ∃ v', e = .returned v' ∧ Num w v' n k ∧ w = w' := by
  refine ⟨val (a.take k), (short_any va a k w ha hk).mono ?_⟩
  rintro e w1 ⟨v1, rfl, hv1, rfl⟩
  exact ⟨v1, rfl, Num.of hv1 (by rw [List.length_take]; omega), rfl⟩

theorem short_at {va : Value} {a : List Nat} {w : World} (ha : NatAt w va a) (k : Nat) (hk : k ≤ 1000000) (z : Int) (hz : (k : Int) = z) :
    ∃ n, Calls Tryd.prog 43 #[va, .int .i64 z] w fun e w' => ∃ v', e = .returned v' ∧ Num w v' n k ∧ w = w' := by
  subst hz; exact short_num ha k hk

end Go.Proofs.YtcbocdkpdedogaaDoor
