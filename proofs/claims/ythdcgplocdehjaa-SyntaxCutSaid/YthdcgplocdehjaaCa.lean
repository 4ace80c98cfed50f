/- Cut, in plain lists; what its walk needs. -/
import Derived.Test.YthdcgplocdehjaaZJ
import Derived.Test.YthdcgplocdehjaaEa
namespace Go.Proofs.Ythdcgplocdehjaa
open Go.RowKit Go.Proofs.Kit

section
variable {α : Type} {ln : α → Int}
def cutF (f : FldA α) : FldA α := (f.1.take 30, (f.2.1.take 12).map (·.take 30), f.2.2)
def cutB (b : BlkA α) : BlkA α := (b.1.take 30, b.2.1.take 30, (b.2.2.1.take 12).map cutF, b.2.2.2)
def cutS (s : SrcA α) : SrcA α := (s.1.take 40, (s.2.take 12).map cutB)
theorem cut_sm (s : SrcA α) : SmS (cutS s) := by
  refine ⟨?_, ?_, fun b hb => ?_⟩
  · show (s.1.take 40).length ≤ 1000
    rw [List.length_take]; omega
  · show ((s.2.take 12).map cutB).length ≤ 1000
    rw [List.length_map, List.length_take]; omega
  · obtain ⟨b0, _, rfl⟩ := List.mem_map.1 hb
    refine ⟨?_, ?_, ?_, fun f hf => ?_⟩
    · show (b0.1.take 30).length ≤ 1000
      rw [List.length_take]; omega
    · show (b0.2.1.take 30).length ≤ 1000
      rw [List.length_take]; omega
    · show ((b0.2.2.1.take 12).map cutF).length ≤ 1000
      rw [List.length_map, List.length_take]; omega
    · obtain ⟨f0, _, rfl⟩ := List.mem_map.1 hf
      refine ⟨?_, ?_, fun v hv => ?_⟩
      · show (f0.1.take 30).length ≤ 1000
        rw [List.length_take]; omega
      · show ((f0.2.1.take 12).map _).length ≤ 1000
        rw [List.length_map, List.length_take]; omega
      · obtain ⟨v0, _, rfl⟩ := List.mem_map.1 hv
        rw [List.length_take]; omega
theorem ext_take (S : ByteArray) (n : Nat) : (S.extract 0 (min (S.size : Int) (n : Int)).toNat).data.toList = S.data.toList.take n := by
  rw [ext_to, show (min (S.size : Int) (n : Int)).toNat = min S.size n by omega, Lib.size_eq, List.take_eq_take_iff]
  omega
/-- A string, cut. -/
theorem cut_str (v : List UInt8) {S : ByteArray} (hS : (⟨v.toArray⟩ : ByteArray) = S) (n : Nat) : strV (v.take n) = .string (S.extract 0 (min (S.size : Int) (n : Int)).toNat) := by
  have e := ext_take S n
  unfold strV
  rw [← Lib.mk_data (S.extract _ _), e, ← hS]
/-- Behind a second update of a block that is new. -/
theorem Upd.inner {X G : Nat} {w w1 w2 : World} (h : Upd X w w1) (k : Upd G w1 w2) (hG : w.heap.size ≤ G) (hX : X ≤ G) : Upd X w w2 :=
  ⟨fun b h1 h2 => (k.heap b (Nat.lt_of_lt_of_le h1 h.below.size) (by omega)).trans (h.heap b h1 h2), h.below.trans (k.below.mono hX)⟩
/-- A field under construction: its row of values. -/
structure QG (G base : Nat) (S : ByteArray) (l : Int) (u : Value) (vals : List Value) (W : World) : Prop where
  blk : Bk G #[.string S, u, .int .i64 l] W
  own : W.ownsRow base 9 1 u vals.length vals
/-- The row of values has grown. -/
theorem QG.grow {G base : Nat} {S : ByteArray} {l : Int} {u v' : Value} {vals : List Value} {x : Value} {W0 W W' : World} (hG : G < base) (hB : W0.heap.size = base) (hW : Upd G W0 W) (h : QG G base S l u vals W)
    (ho : W'.ownsRow base 9 1 v' (vals.length + 1) (vals ++ [x])) (hb : Below base W W') : QG G base S l v' (vals ++ [x]) (W'.setCell ⟨G, 1, none⟩ v') ∧ Upd G W0 (W'.setCell ⟨G, 1, none⟩ v') := by
  have hF' : Bk G #[.string S, u, .int .i64 l] W' := h.blk.same (hb.block G hG) hb.size
  have hu : Upd G W0 W' := ⟨fun k hk hne => (hb.block k (by omega)).trans (hW.heap k hk hne), hW.below.trans (hb.mono (by omega))⟩
  refine ⟨⟨hF'.put (o := 1) (by simp) v', ?_⟩, hu.set 1 v'⟩
  rw [List.length_append, List.length_singleton]
  exact ownsRow_setCell_below ho (a := ⟨G, 1, none⟩) hG v'
end

/-- Two boxes behind a parse. -/
theorem boxes2 (w : World) (x y f g : Value) (T U : TypeId) : Hid (Bk w.heap.size #[x, y] ((w.alloc (.cells #[x, y] T)).alloc (.cells #[f, g] U)) ∧ Bk (w.heap.size + 1) #[f, g] ((w.alloc (.cells #[x, y] T)).alloc (.cells #[f, g] U)) ∧ Below w.heap.size w ((w.alloc (.cells #[x, y] T)).alloc (.cells #[f, g] U))) :=
  Lib.hid ⟨(Bk.new w _ T).keep ((Below.refl _ _).alloc (Nat.le_refl _) _), Bk.newAt _ _ _ (by simp), ((Below.refl w.heap.size w).alloc (Nat.le_refl _) _).alloc (by simp) _⟩

end Go.Proofs.Ythdcgplocdehjaa
