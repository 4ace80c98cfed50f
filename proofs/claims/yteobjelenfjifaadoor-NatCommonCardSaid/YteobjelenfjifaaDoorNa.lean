import Derived.Test.YteobjelenfjifaaDoorRows
import Derived.Test.YteobjelenfjifaaDoorK3
import Derived.Test.YteobjelenfjifaaDoorNp
namespace Go.Proofs.YteobjelenfjifaaDoor
open Go.RowKit Go.Proofs.Kit Go.Proofs.Nums

theorem ret_val {a b : Value} (h : a = b) : Ending.returned a = .returned b := by rw [h]

def limbV (x : Nat) : Value := .int .u32 (x : Int)

/-- v reads as the limbs l. -/
def NatAt (w : World) (v : Value) (l : List Nat) : Prop := RowAt w v (l.map limbV) ∧ Lim l

theorem NatAt.keep {w w' : World} {v : Value} {l : List Nat} (h : NatAt w v l) (hb : Below w.heap.size w w') : NatAt w' v l := ⟨h.1.keep hb, h.2⟩
theorem NatAt.on {w w' : World} {o : Obj} {v : Value} {l : List Nat} (h : NatAt w v l) (hb : Below (w.alloc o).heap.size (w.alloc o) w') : NatAt w' v l := ⟨h.1.on hb, h.2⟩
theorem NatAt.alloc {w : World} {v : Value} {l : List Nat} (h : NatAt w v l) (o : Obj) : NatAt (w.alloc o) v l := ⟨h.1.alloc o, h.2⟩
theorem NatAt.nil (w : World) : NatAt w (.slice none 0 0) [] := ⟨RowAt.nil w, Lim.nil⟩

/-- Its shape: empty, or a row of cells. -/
theorem NatAt.cases {w : World} {v : Value} {l : List Nat} (h : NatAt w v l) :
    (l = [] ∧ ∃ p cap, v = .slice p 0 cap ∧ cap ≤ 9223372036854775807 ∧ (p = none → cap = 0)) ∨
    (0 < l.length ∧ ∃ b off cap, v = .slice (some ⟨b, off, none⟩) l.length cap ∧ l.length ≤ cap ∧ cap ≤ 9223372036854775807 ∧ b < w.heap.size ∧ ∀ i, i < l.length → w.cell? ⟨b, off + i, none⟩ = some (.int .u32 ((nth l i : Nat) : Int))) := by
  rcases h.1.cases with ⟨h1, h2⟩ | ⟨h1, b, off, cap, hv, hc, hm, hb, hcell⟩
  · left; exact ⟨by simpa using h1, h2⟩
  · right
    rw [List.length_map] at h1 hv hc
    refine ⟨h1, b, off, cap, hv, hc, hm, hb, fun i hi => ?_⟩
    refine hcell i _ ?_
    rw [List.getElem?_map, List.getElem?_eq_getElem hi, nth_lt hi]
    rfl

theorem NatAt.shape {w : World} {v : Value} {l : List Nat} (h : NatAt w v l) : ∃ p c, v = .slice p l.length c := by
  obtain ⟨p, c, hv, _⟩ := h.1
  rw [List.length_map] at hv
  exact ⟨p, c, hv⟩

theorem er24 : ElemRow Tryd.prog 24 60 (.int .u32 0) 1 4 := ⟨Tryd.underlying24, by kernel_rfl, rfl, by decide⟩

theorem norm_take {l : List Nat} {k : Nat} (hk : k + 1 ≤ l.length) (h : nth l k ≠ 0) : Norm (l.take (k+1)) := by
  unfold Norm
  rw [List.take_succ_eq_append_getElem (by omega), List.getLast?_append]
  simp
  rw [nth_lt (by omega)] at h
  exact h

theorem val_drop_step {l : List Nat} {k : Nat} (hk : k < l.length) (h : nth l k = 0) (hz : val (l.drop (k+1)) = 0) : val (l.drop k) = 0 := by
  rw [List.drop_eq_getElem_cons hk, val, hz]
  rw [nth_lt hk] at h
  omega

set_option maxHeartbeats 1000000 in
theorem trim_any (v : Value) (l : List Nat) (w : World) (h : NatAt w v l) :
    Calls Tryd.prog 40 #[v] w fun e w' => ∃ v', e = .returned v' ∧ NatAt w v' (limbs (val l)) ∧ w = w' := by
  rcases h.cases with ⟨rfl, p, cap, rfl, _, _⟩ | ⟨h1, b, off, cap, rfl, hc, hm, hb, hcell⟩
  · clear h
    go_enter Tryd.func40, Tryd.ntmps40
    go_wp2_with fail
    refine wp_loop_rounds 1 ?_
    rw [rounds_succ]
    go_wp2_with fail
    go_ret
    exact ⟨_, rfl, NatAt.nil w, rfl⟩
  · have H := Lib.hid h
    have HC := Lib.hid hcell
    clear h hcell
    go_enter Tryd.func40, Tryd.ntmps40
    go_wp2_with fail
    go_loop [3] (fun i => ∃ k : Nat, k ≤ l.length ∧ i = .int .i64 k ∧ Hid (val (l.drop k) = 0)) (fun i => (intOf i).toNat)
    case atStart => exact ⟨l.length, Nat.le_refl _, rfl, Lib.hid (by rw [List.drop_length]; rfl)⟩
    case round =>
      obtain ⟨k, hk, rfl, hP⟩ := hrel
      by_cases h0 : 0 < k
      · obtain ⟨m, rfl⟩ : ∃ m, k = m + 1 := ⟨k - 1, by omega⟩
        have hcm := HC.out m (by omega)
        cases hz : (((nth l m : Nat) : Int) == 0)
        · have hN : Hid (limbs (val l) = l.take (m + 1)) := Lib.hid (limbs_trim l H.out.2 (m+1) hP.out (norm_take hk (by simpa using hz)))
          go_wp2_with fail
          go_ret
          refine ⟨_, rfl, ⟨?_, limbs_lim _⟩, rfl⟩
          rw [hN.out, List.map_take]
          exact RowAt.take H.out.1 (m+1) (by rw [List.length_map]; exact hk)
        · have HZ : Hid (val (l.drop m) = 0) := Lib.hid (val_drop_step (by omega) (by simpa using hz) hP.out)
          go_wp2_with fail
          go_round
          case rel => exact ⟨m, by omega, by go_num, HZ⟩
          case measure => simp [intOf]
      · obtain rfl : k = 0 := by omega
        have hN : Hid (limbs (val l) = []) := Lib.hid (by have := hP.out; rw [List.drop_zero] at this; rw [this]; rfl)
        clear h0
        go_wp2_with fail
        go_ret
        exact ⟨_, rfl, by rw [hN.out]; exact NatAt.nil w, rfl⟩

set_option maxHeartbeats 1000000 in
theorem limb_any (v : Value) (l : List Nat) (i : Nat) (w : World) (h : NatAt w v l) :
    Calls Tryd.prog 43 #[v, .int .i64 i] w fun e w' => e = .returned (.int .u64 ((nth l i : Nat) : Int)) ∧ w = w' := by
  have hL := h.2.nth i
  rcases h.cases with ⟨rfl, p, cap, rfl, _, _⟩ | ⟨h1, b, off, cap, rfl, hc, hm, hb, hcell⟩
  · clear h
    go_enter Tryd.func43, Tryd.ntmps43
    go_wp2_with fail
    go_ret
    exact ⟨rfl, rfl⟩
  · clear h
    by_cases hi : i < l.length
    · have hci := hcell i hi
      clear hcell
      go_enter Tryd.func43, Tryd.ntmps43
      go_wp2_with fail
      go_ret
      exact ⟨rfl, rfl⟩
    · have h0 : Hid (nth l i = 0) := Lib.hid (nth_ge (by omega))
      clear hcell
      go_enter Tryd.func43, Tryd.ntmps43
      go_wp2_with fail
      go_ret
      exact ⟨by rw [h0.out]; rfl, rfl⟩

set_option maxHeartbeats 1000000 in
theorem clone_any (v : Value) (l : List Nat) (w : World) (h : NatAt w v l) (hl : l.length ≤ 1000000000) :
    Calls Tryd.prog 42 #[v] w fun e w' => ∃ v', e = .returned v' ∧ NatAt w' v' l ∧ Below w.heap.size w w' := by
  have own0 : ∀ w : World, (w.alloc (.cells #[] 60)).ownsRow w.heap.size 60 1 (.slice (some ⟨w.heap.size, 0, none⟩) 0 0) 0 [] := fun w =>
    World.ownsRow_lit w #[] 0 (Nat.le_refl _) (Nat.zero_le _) rfl
  rcases h.cases with ⟨rfl, p, cap, rfl, _, h3⟩ | ⟨h1, b, off, cap, rfl, hc, hm, hb, hcell⟩
  · cases p with
    | none =>
      obtain rfl := h3 rfl
      have H := Lib.hid h
      clear h hl
      have heqn := fun (w : World) (a : Option Addr) (n c : Nat) => Lib.run_eql_slice_nil (P := Tryd.prog) w 24 60 a n c 0 0 Tryd.underlying24
      go_enter Tryd.func42, Tryd.ntmps42
      go_wp2_with fail
      go_ret
      exact ⟨_, rfl, NatAt.nil w, Below.refl _ _⟩
    | some q =>
      have H := Lib.hid h
      have O := Lib.hid (own0 w)
      clear h own0 hl
      have heqn := fun (w : World) (a : Option Addr) (n c : Nat) => Lib.run_eql_slice_nil (P := Tryd.prog) w 24 60 a n c 0 0 Tryd.underlying24
      go_enter Tryd.func42, Tryd.ntmps42
      go_wp2_with (at_builtin; (refine append_row er24 (base := w.heap.size) (n := 0) (xs := []) (news := []) (by rfl) (by rfl) O.out (by rfl) (by rfl) (by rfl) (fun j u h => by simp at h) (fun u h => by simp at h) (by omega) (by omega) (by simp) ?_); intro v' w1 hown1 _ hb1)
      go_ret
      refine ⟨_, rfl, ⟨by simpa using RowAt.owned hown1, Lim.nil⟩, (below_new hb1)⟩
  · have H := Lib.hid h
    have O := Lib.hid (own0 w)
    have hcells : ∀ j u, (l.map limbV)[j]? = some u → (w.alloc (.cells #[] 60)).cell? ((⟨b, off, none⟩ : Addr).add j) = some u := fun j u hj => by
      rw [Addr.add_lit]
      refine cell_alloc_old ?_
      rw [List.getElem?_map] at hj
      cases hlj : l[j]? with
      | none => rw [hlj] at hj; simp at hj
      | some x =>
        have hjl := (List.getElem?_eq_some_iff.1 hlj).1
        rw [hlj] at hj
        simp at hj
        rw [hcell j hjl, nth_lt hjl, (List.getElem?_eq_some_iff.1 hlj).2, ← hj]
        rfl
    have HCS := Lib.hid hcells
    have hone : ∀ u ∈ l.map limbV, u.oneCell' = true := fun u hu => by
      obtain ⟨x, _, rfl⟩ := List.mem_map.1 hu; rfl
    have HO := Lib.hid hone
    clear h hcell own0 hcells hone
    have heqn := fun (w : World) (a : Option Addr) (n c : Nat) => Lib.run_eql_slice_nil (P := Tryd.prog) w 24 60 a n c 0 0 Tryd.underlying24
    go_enter Tryd.func42, Tryd.ntmps42
    go_wp2_with (at_builtin; go_must (refine append_row er24 (base := w.heap.size) (n := 0) (xs := []) (news := l.map limbV) (by rfl) (by rfl) O.out (by rfl) (by rfl) (by rw [List.length_map, Nat.mul_one]) HCS.out HO.out (by omega) (by omega) (by simp) ?_); intro v' w1 hown1 _ hb1)
    go_ret
    refine ⟨_, rfl, ⟨by simpa using RowAt.owned hown1, H.out.2⟩, (below_new hb1)⟩

/-- Norm. -/
theorem norm_any (v : Value) (l : List Nat) (w : World) (h : NatAt w v l) (hl : l.length ≤ 1000000000) :
    Calls Tryd.prog 20 #[v] w fun e w' => ∃ v', e = .returned v' ∧ NatAt w' v' (limbs (val l)) ∧ Below w.heap.size w w' := by
  have hlen : (limbs (val l)).length ≤ 1000000000 := Nat.le_trans (limbs_len_le _ _ (val_lt l h.2)) hl
  have H := Lib.hid h
  clear h
  go_enter Tryd.func20, Tryd.ntmps20
  go_wp2_with (first
    | (go_at_call 40; refine (trim_any _ _ _ H.out).mono ?_; rintro e w1 ⟨v1, rfl, hv1, rfl⟩)
    | (go_at_call 42; refine (clone_any _ _ _ hv1 hlen).mono ?_; rintro e w2 ⟨v2, rfl, hv2, hb2⟩))
  go_ret
  exact ⟨_, rfl, hv2, hb2⟩

end Go.Proofs.YteobjelenfjifaaDoor
