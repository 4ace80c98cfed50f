import Derived.Test.YtaommeapngbgeaaDoorMW
import Derived.Test.YtaommeapngbgeaaDoorMR
namespace Go.Proofs.YtaommeapngbgeaaDoor
open Go.RowKit Go.Proofs.Kit Go.Proofs.Nums

/-- The text of a normal form. -/
def ratB (q : Q) : List UInt8 := (if q.neg then [45] else []) ++ (decB q.n ++ (if q.d = 1 then [] else 47 :: decB q.d))

theorem bs_app (a b : List UInt8) : (⟨a.toArray⟩ : ByteArray) ++ ⟨b.toArray⟩ = ⟨(a ++ b).toArray⟩ := by
  apply ByteArray.ext
  rw [ByteArray.data_append]
  simp
end Go.Proofs.YtaommeapngbgeaaDoor
