import Derived.Test.YteobjelenfjifaaDoorDa
namespace Go.Proofs.YteobjelenfjifaaDoor
open Go.RowKit Go.Proofs.Kit Go.Proofs.Nums

theorem bit_val (m : Nat) : Value.bool ((m : Int) % 2 == 1) = Value.bool (m % 2 == 1) := by
  congr 1
  rw [Bool.eq_iff_iff]; simp; omega

set_option maxHeartbeats 2000000 in
theorem small_any (N : Nat) (w : World) (hN : N ≤ 1000000) :
    Calls Tryd.prog 51 #[.int .i64 N] w fun e w' => ∃ v', e = .returned v' ∧ BitAt w' v' (bitsN N) ∧ Below w.heap.size w w' := by
  go_enter Tryd.func51, Tryd.ntmps51
  go_wp2_with fail
  go_loopw [0, 3] (fun nv bv wr => ∃ m k : Nat, ∃ o : List Bool, m ≤ N ∧ k + m ≤ N ∧ nv = .int .i64 m ∧ wr.ownsRow w.heap.size 4 1 bv k (o.map Value.bool) ∧ Below w.heap.size w wr ∧ Hid (bitsN N = o ++ bitsN m)) (fun nv _ _ => (intOf nv).toNat)
  case atStart => exact ⟨N, 0, [], by omega, by omega, rfl, World.ownsRow_nil _ _ _ _, Below.refl _ _, Lib.hid rfl⟩
  case round =>
    obtain ⟨m, k, o, hm, hkm, rfl, hown, hbel, hP⟩ := hrel
    by_cases h0 : 0 < m
    · have HS : Hid (bitsN N = (o ++ [(m % 2 == 1)]) ++ bitsN (m / 2)) := Lib.hid (by rw [hP.out, bits_pos m (by omega), List.append_assoc]; rfl)
      go_wp2_with (at_builtin; go_must (refine append_one er30 rfl rfl hown rfl rfl rfl (by simp [Value.oneCell']) (by omega) (by omega) hbel.size ?_); intro v' w1 hown1 _ hb1 hne1)
      go_roundw
      case rel =>
        refine ⟨m / 2, k + 1, o ++ [(m % 2 == 1)], by omega, by omega, by go_num, ?_, hbel.trans hb1, HS⟩
        rw [List.map_append, List.map_cons, List.map_nil, ← bit_val]
        exact hown1
      case measure => simp [intOf] <;> omega
    · obtain rfl : m = 0 := by omega
      have hE : Hid (o = bitsN N) := Lib.hid (by rw [hP.out, bits_zero, List.append_nil])
      have HR := Lib.hid (RowAt.owned hown)
      clear hown
      go_wp2_with fail
      go_ret
      exact ⟨_, rfl, by rw [← hE.out]; exact HR.out, hbel⟩

/-- An array of bits of the call's own. -/
def OwnBits (w : World) (base g n cap : Nat) (o : List Bool) : Prop := o.length = n ∧ w.ownsRow base 4 1 (.slice (some ⟨g, 0, none⟩) n cap) n (o.map Value.bool)

theorem OwnBits.read {w : World} {base g n cap : Nat} {o : List Bool} (h : OwnBits w base g n cap o) : BitAt w (.slice (some ⟨g, 0, none⟩) n cap) o := RowAt.owned h.2
theorem OwnBits.cell {w : World} {base g n cap : Nat} {o : List Bool} (h : OwnBits w base g n cap o) {j : Nat} (hj : j < n) : w.cell? ⟨g, j, none⟩ = some (.bool (bnth o j)) := by
  rw [h.2.cellAt j (by omega), List.getElem?_map, List.getElem?_eq_getElem (by rw [h.1]; exact hj), bnth_lt (by rw [h.1]; exact hj)]; rfl
theorem OwnBits.free {w : World} {base g n cap : Nat} {o : List Bool} (h : OwnBits w base g n cap o) (j : Nat) : w.frozen? ⟨g, j, none⟩ = false := h.2.frozenAt j
theorem OwnBits.put {w : World} {base g n cap : Nat} {o : List Bool} (h : OwnBits w base g n cap o) (j : Nat) (x : Bool) :
    OwnBits (w.setCell ⟨g, j, none⟩ (.bool x)) base g n cap (o.set j x) ∧ Below base w (w.setCell ⟨g, j, none⟩ (.bool x)) := by
  have hs := h.2.stored j (.bool x)
  refine ⟨⟨by rw [List.length_set]; exact h.1, ?_⟩, ?_⟩
  · rw [List.map_set]; exact hs.1
  · exact (Below.refl base w).setCell (h.2.lt g rfl).1 _
theorem OwnBits.lt {w : World} {base g n cap : Nat} {o : List Bool} (h : OwnBits w base g n cap o) : base ≤ g ∧ g < w.heap.size := h.2.lt g rfl
theorem OwnBits.keep {w w' : World} {base g n cap : Nat} {o : List Bool} (h : OwnBits w base g n cap o) (hb : Below w.heap.size w w') : OwnBits w' base g n cap o := ⟨h.1, ownsRow_below h.2 hb⟩
theorem OwnBits.made {w : World} {base g n cap : Nat} (h : w.ownsRow base 4 1 (.slice (some ⟨g, 0, none⟩) n cap) n (madeCells (Value.bool false).cells (n * 1)).toList) : OwnBits w base g n cap (List.replicate n false) := by
  refine ⟨List.length_replicate, ?_⟩
  rw [show (Value.bool false).cells = #[.bool false] from rfl, toList_madeCells_one, Nat.mul_one] at h
  rw [List.map_replicate]; exact h

theorem bits_len2 {R m b : Nat} (h : R < m) (hb : b ≤ 1) (hm : (bitsN m).length ≤ 40000) : (bitsN (b + 2 * R)).length ≤ 40001 := by
  refine Nat.le_trans (bits_len_le _ ((bitsN m).length + 1) ?_) (by omega)
  have := bits_lt_pow m
  rw [Nat.pow_succ]; omega

end Go.Proofs.YteobjelenfjifaaDoor
