import Derived.Test.YteobjelenfjifaaDoorNt
import Derived.Test.YteobjelenfjifaaDoorNj
import Derived.RegionTactic
import Derived.ChangeAlike
namespace Go.Proofs.YteobjelenfjifaaDoor
open Go.RowKit Go.Proofs.Kit Go.Proofs.Nums

/-- A row of bytes of the call's own. -/
def OwnB (w : World) (base g n cap : Nat) (o : List UInt8) : Prop := o.length = n ∧ w.ownsRow base 5 1 (.slice (some ⟨g, 0, none⟩) n cap) n (o.map byteV)

theorem OwnB.cell {w : World} {base g n cap : Nat} {o : List UInt8} (h : OwnB w base g n cap o) {j : Nat} (hj : j < n) : w.cell? ⟨g, j, none⟩ = some (.int .u8 ((bat o j).toNat : Int)) := by
  rw [h.2.cellAt j (by omega), List.getElem?_map, List.getElem?_eq_getElem (by rw [h.1]; exact hj), bat_lt (by rw [h.1]; exact hj)]; rfl
theorem OwnB.free {w : World} {base g n cap : Nat} {o : List UInt8} (h : OwnB w base g n cap o) (j : Nat) : w.frozen? ⟨g, j, none⟩ = false := h.2.frozenAt j
theorem OwnB.put {w : World} {base g n cap : Nat} {o : List UInt8} (h : OwnB w base g n cap o) (j : Nat) (x : UInt8) :
    OwnB (w.setCell ⟨g, j, none⟩ (.int .u8 (x.toNat : Int))) base g n cap (o.set j x) ∧ Below base w (w.setCell ⟨g, j, none⟩ (.int .u8 (x.toNat : Int))) := by
  have hs := h.2.stored j (.int .u8 (x.toNat : Int))
  refine ⟨⟨by rw [List.length_set]; exact h.1, ?_⟩, ?_⟩
  · rw [List.map_set]; exact hs.1
  · exact (Below.refl base w).setCell (h.2.lt g rfl).1 _
theorem OwnB.drewN {w : World} {base g n cap : Nat} {o : List UInt8} (h : OwnB w base g n cap o) (k : Nat) : OwnB (w.drewN k) base g n cap o := ⟨h.1, ownsRow_below h.2 (below_drewN (Below.refl _ _) k)⟩

set_option maxHeartbeats 4000000 in
theorem rev_any (w : World) (base g n cap : Nat) (xs : List UInt8) (h : OwnB w base g n cap xs) (hn : n ≤ 1000000) (_hb : base ≤ w.heap.size) :
    Calls Tryd.prog 48 #[.slice (some ⟨g, 0, none⟩) n cap] w fun e w' => e = .returned (.tuple #[]) ∧ OwnB w' base g n cap xs.reverse ∧ Below base w w' := by
  have HXL := Lib.hid h.1
  have HR := Lib.hid (Rev.start xs)
  go_enter Tryd.func48, Tryd.ntmps48
  go_wp2_with fail
  go_loopw [2, 3] (fun i j wr => ∃ k : Nat, ∃ ys : List UInt8, k ≤ n ∧ i = .int .i64 k ∧ j = .int .i64 ((n : Int) - 1 - k) ∧ OwnB wr base g n cap ys ∧ Below base w wr ∧ Hid (Rev xs ys k)) (fun i _ _ => n - (intOf i).toNat)
  case atStart => exact ⟨0, xs, by omega, rfl, by go_num, h, Below.refl _ _, HR⟩
  case round =>
    obtain ⟨k, ys, hk, rfl, rfl, hO, hbel, hP⟩ := hrel
    by_cases hlt : 2 * k + 1 < n
    · obtain ⟨m, hm⟩ : ∃ m, n - 1 - k = m := ⟨_, rfl⟩
      rw [show ((n : Int) - 1 - (k : Int)) = (m : Int) by omega]
      have ck := hO.cell (j := k) (by omega)
      have cm := hO.cell (j := m) (by omega)
      have fk := hO.free k
      have fm := hO.free m
      have hne : k ≠ m := by omega
      have HO := Lib.hid hO
      clear hO
      go_wp2_with fail
      have hst := Rev.step hP.out (by rw [HXL.out]; exact hlt)
      rw [HXL.out, hm] at hst
      have HST := Lib.hid hst
      have hp1 := HO.out.put k (bat ys m)
      have hp2 := hp1.1.put m (bat ys k)
      have hp3 := hp2.1.drewN 1
      have hb3 := below_drewN (hbel.trans (hp1.2.trans hp2.2)) 1
      clear hst
      go_region
      all_goals go_wp2_with fail
      all_goals go_roundw
      case rel =>
        exact ⟨k + 1, _, by omega, by go_num, by go_num, hp3, hb3, HST⟩
      case measure => simp [intOf] <;> omega
    · go_wp2_with fail
      go_end0
      have e := Rev.done hP.out (by rw [HXL.out]; exact hlt)
      exact ⟨rfl, by rw [← e]; exact hO, hbel⟩

end Go.Proofs.YteobjelenfjifaaDoor
