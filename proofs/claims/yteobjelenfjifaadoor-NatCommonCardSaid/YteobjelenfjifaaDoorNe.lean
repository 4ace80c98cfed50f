import Derived.Test.YteobjelenfjifaaDoorNd
import Derived.Test.YteobjelenfjifaaDoorNq
namespace Go.Proofs.YteobjelenfjifaaDoor
open Go.RowKit Go.Proofs.Kit Go.Proofs.Nums

/-- v reads as the bitsN l. -/
def BitAt (w : World) (v : Value) (l : List Bool) : Prop := RowAt w v (l.map Value.bool)

theorem BitAt.keep {w w' : World} {v : Value} {l : List Bool} (h : BitAt w v l) (hb : Below w.heap.size w w') : BitAt w' v l := RowAt.keep h hb
theorem BitAt.on {w w' : World} {o : Obj} {v : Value} {l : List Bool} (h : BitAt w v l) (hb : Below (w.alloc o).heap.size (w.alloc o) w') : BitAt w' v l := RowAt.on h hb
theorem BitAt.nil (w : World) : BitAt w (.slice none 0 0) [] := RowAt.nil w
theorem BitAt.shape {w : World} {v : Value} {l : List Bool} (h : BitAt w v l) : ∃ p c, v = .slice p l.length c := by
  obtain ⟨p, c, hv, _⟩ := h
  rw [List.length_map] at hv
  exact ⟨p, c, hv⟩
theorem BitAt.cases {w : World} {v : Value} {l : List Bool} (h : BitAt w v l) :
    (l = [] ∧ ∃ p cap, v = .slice p 0 cap ∧ cap ≤ 9223372036854775807 ∧ (p = none → cap = 0)) ∨
    (0 < l.length ∧ ∃ b off cap, v = .slice (some ⟨b, off, none⟩) l.length cap ∧ l.length ≤ cap ∧ cap ≤ 9223372036854775807 ∧ b < w.heap.size ∧ ∀ i, i < l.length → w.cell? ⟨b, off + i, none⟩ = some (.bool (bnth l i))) := by
  rcases RowAt.cases h with ⟨h1, h2⟩ | ⟨h1, b, off, cap, hv, hc, hm, hb, hcell⟩
  · left; exact ⟨by simpa using h1, h2⟩
  · right
    rw [List.length_map] at h1 hv hc
    refine ⟨h1, b, off, cap, hv, hc, hm, hb, fun i hi => ?_⟩
    refine hcell i _ ?_
    rw [List.getElem?_map, List.getElem?_eq_getElem hi, bnth_lt hi]
    rfl

theorem er30 : ElemRow Tryd.prog 30 4 (.bool false) 1 1 := ⟨Tryd.underlying30, by kernel_rfl, rfl, by decide⟩

theorem bool_one (l : List Bool) : ∀ u ∈ l.map Value.bool, u.oneCell' = true := by
  intro u hu
  obtain ⟨_, _, rfl⟩ := List.mem_map.1 hu
  rfl

theorem bit_cells {w : World} {b off : Nat} {l : List Bool} (hcell : ∀ i, i < l.length → w.cell? ⟨b, off + i, none⟩ = some (.bool (bnth l i))) (k : Nat) :
    ∀ j u, ((l.take k).map Value.bool)[j]? = some u → w.cell? ((⟨b, off, none⟩ : Addr).add j) = some u := by
  intro j u hj
  rw [Addr.add_lit]
  rw [List.getElem?_map] at hj
  cases hlj : (l.take k)[j]? with
  | none => rw [hlj] at hj; simp at hj
  | some x =>
    rw [List.getElem?_take] at hlj
    split at hlj
    · have hjl := (List.getElem?_eq_some_iff.1 hlj).1
      rw [hcell j hjl, bnth_lt hjl, (List.getElem?_eq_some_iff.1 hlj).2]
      rw [List.getElem?_take, if_pos (by assumption), hlj] at hj
      simpa using hj
    · simp at hlj

set_option maxHeartbeats 1000000 in
theorem rtrim_any (v : Value) (l : List Bool) (w : World) (h : BitAt w v l) (hl : l.length ≤ 1000000) :
    Calls Tryd.prog 41 #[v] w fun e w' => ∃ v', e = .returned v' ∧ BitAt w' v' (bitsN (bval l)) ∧ Below w.heap.size w w' := by
  rcases h.cases with ⟨rfl, p, cap, rfl, _, _⟩ | ⟨h1, b, off, cap, rfl, hc, hm, hb, hcell⟩
  · clear h hl
    cases p with
    | none =>
      go_enter Tryd.func41, Tryd.ntmps41
      go_wp2_with fail
      refine wp_loop_rounds 1 ?_
      rw [rounds_succ]
      go_wp2_with (at_builtin; refine append_nil er30 (base := w.heap.size) (n := 0) (xs := []) (by rfl) (by rfl) (World.ownsRow_nil _ _ _ _) (by rfl) (by rfl) ?_)
      go_ret
      exact ⟨_, rfl, BitAt.nil w, Below.refl _ _⟩
    | some q =>
      go_enter Tryd.func41, Tryd.ntmps41
      go_wp2_with fail
      refine wp_loop_rounds 1 ?_
      rw [rounds_succ]
      go_wp2_with (at_builtin; (refine append_row er30 (base := w.heap.size) (n := 0) (xs := []) (news := []) (by rfl) (by rfl) (World.ownsRow_nil _ _ _ _) (by rfl) (by rfl) (by rfl) (fun j u h => by simp at h) (fun u h => by simp at h) (by omega) (by omega) (Nat.le_refl _) ?_); intro v' w1 hown1 _ hb1)
      go_ret
      exact ⟨_, rfl, RowAt.owned hown1, hb1⟩
  · have H := Lib.hid h
    have HC := Lib.hid hcell
    clear h hcell
    go_enter Tryd.func41, Tryd.ntmps41
    go_wp2_with fail
    go_loop [3] (fun i => ∃ k : Nat, k ≤ l.length ∧ i = .int .i64 k ∧ Hid (bval (l.drop k) = 0)) (fun i => (intOf i).toNat)
    case atStart => exact ⟨l.length, Nat.le_refl _, rfl, Lib.hid (by rw [List.drop_length]; rfl)⟩
    case round =>
      obtain ⟨k, hk, rfl, hP⟩ := hrel
      by_cases h0 : 0 < k
      · obtain ⟨m, rfl⟩ : ∃ m, k = m + 1 := ⟨k - 1, by omega⟩
        have hcm := HC.out m (by omega)
        cases hz : bnth l m
        · have HZ : Hid (bval (l.drop m) = 0) := Lib.hid (bval_drop_step (by omega) hz hP.out)
          go_wp2_with fail
          go_round
          case rel => exact ⟨m, by omega, by go_num, HZ⟩
          case measure => simp [intOf]
        · have hN : Hid (bitsN (bval l) = l.take (m + 1)) := Lib.hid (bits_trim l (m+1) hP.out (bnorm_take hk hz))
          go_wp2_with (at_builtin; (refine append_row er30 (base := w.heap.size) (n := 0) (xs := []) (news := (l.take (m + 1)).map Value.bool) (by rfl) (by rfl) (World.ownsRow_nil _ _ _ _) (by rfl) (by rfl) (by rw [List.length_map, List.length_take]; omega) (bit_cells HC.out (m + 1)) (bool_one _) (by omega) (by omega) (Nat.le_refl _) ?_); intro v' w1 hown1 _ hb1)
          go_ret
          exact ⟨_, rfl, by rw [hN.out]; exact RowAt.owned hown1, hb1⟩
      · obtain rfl : k = 0 := by omega
        have hN : Hid (bitsN (bval l) = []) := Lib.hid (by have := hP.out; rw [List.drop_zero] at this; rw [this]; rfl)
        clear h0
        go_wp2_with (at_builtin; (refine append_row er30 (base := w.heap.size) (n := 0) (xs := []) (news := []) (by rfl) (by rfl) (World.ownsRow_nil _ _ _ _) (by rfl) (by rfl) (by rfl) (fun j u h => by simp at h) (fun u h => by simp at h) (by omega) (by omega) (Nat.le_refl _) ?_); intro v' w1 hown1 _ hb1)
        go_ret
        exact ⟨_, rfl, by rw [hN.out]; exact RowAt.owned hown1, hb1⟩

end Go.Proofs.YteobjelenfjifaaDoor
