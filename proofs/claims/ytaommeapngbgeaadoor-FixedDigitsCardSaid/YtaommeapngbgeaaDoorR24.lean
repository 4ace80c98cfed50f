import Derived.Test.YtaommeapngbgeaaDoorM22
import Derived.Test.YtaommeapngbgeaaDoorRP
import Derived.Test.YtaommeapngbgeaaDoorR1
import Derived.Test.YtaommeapngbgeaaDoorMW
namespace Go.Proofs.YtaommeapngbgeaaDoor
open Go.RowKit Go.Proofs.Kit Go.Proofs.Nums

/-- nat.Parse, in one form. -/
theorem parse_u {s : ByteArray} {w : World} (hs : s.size ≤ 100) :
    Calls Tryd.prog 57 #[.string s] w fun e w' => ∃ v', e = .returned (.tuple #[v', .bool (numB s.data.toList)]) ∧ Nrm w' v' (if numB s.data.toList then pvF s.data.toList else 0) 16 ∧ Below w.heap.size w w' := by
  by_cases h : numB s.data.toList = true
  · refine (parse_yes (by omega) h).mono ?_
    rintro e w' ⟨v', rfl, hv, hb⟩
    rw [h, if_pos rfl]
    refine ⟨v', rfl, ⟨hv, ?_⟩, hb⟩
    refine Nat.lt_of_lt_of_le (num_lt h) ?_
    have h1 := Lib.size_eq s
    exact Nat.le_trans (Nat.pow_le_pow_right (by omega) (show s.data.toList.length ≤ 100 by omega)) (by decide)
  · refine (parse_no (by omega) h).mono ?_
    rintro e w' ⟨rfl, hb⟩
    rw [Bool.not_eq_true] at h
    rw [h]
    exact ⟨_, rfl, nrm_nil' _ _, hb⟩

end Go.Proofs.YtaommeapngbgeaaDoor
