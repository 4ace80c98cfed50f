import Derived.Test.YteobjelenfjifaaDoorOe
import Derived.Test.YteobjelenfjifaaDoorK5
import Derived.Test.YteobjelenfjifaaDoorDb0
namespace Go.Proofs.YteobjelenfjifaaDoor
open Go.RowKit Go.Proofs.Kit Go.Proofs.Nums

/-- v lies in no block below B. -/
def Fresh (B : Nat) (v : Value) : Prop := ∀ b, v.ownBlock = some b → B ≤ b
theorem Fresh.nil (B : Nat) : Fresh B (.slice none 0 0) := fun b h => by simp [Value.ownBlock] at h
theorem Fresh.owned {w : World} {B : Nat} {e : TypeId} {v : Value} {n : Nat} {cs : List Value} (h : w.ownsRow B e 1 v n cs) : Fresh B v := fun b hb => (h.lt b hb).1
theorem Fresh.mono {B B' : Nat} {v : Value} (h : Fresh B v) (hB : B' ≤ B) : Fresh B' v := fun b hb => Nat.le_trans hB (h b hb)

theorem BitAt.put {w : World} {v : Value} {l : List Bool} {g o : Nat} {u : Value} (h : BitAt w v l) (hg : Fresh (g + 1) v) : BitAt (w.setCell ⟨g, o, none⟩ u) v l :=
  RowAt.same h fun b hb => Below.heap_setCell w _ u b (by have := hg b hb; simp; omega)

set_option maxHeartbeats 1000000 in
theorem rtrim_own (v : Value) (l : List Bool) (w : World) (h : BitAt w v l) (hl : l.length ≤ 1000000) :
    Calls Tryd.prog 41 #[v] w fun e w' => ∃ v', e = .returned v' ∧ BitAt w' v' (bitsN (bval l)) ∧ Fresh w.heap.size v' ∧ Below w.heap.size w w' := by
  rcases h.cases with ⟨rfl, p, cap, rfl, _, _⟩ | ⟨h1, b, off, cap, rfl, hc, hm, hb, hcell⟩
  · clear h hl
    cases p with
    | none =>
      go_enter Tryd.func41, Tryd.ntmps41
      go_wp2_with fail
      refine wp_loop_rounds 1 ?_
      rw [rounds_succ]
      go_wp2_with (at_builtin; refine append_nil er30 (base := w.heap.size) (n := 0) (xs := []) (by rfl) (by rfl) (World.ownsRow_nil _ _ _ _) (by rfl) (by rfl) ?_)
      go_ret
      exact ⟨_, rfl, BitAt.nil w, Fresh.nil _, Below.refl _ _⟩
    | some q =>
      go_enter Tryd.func41, Tryd.ntmps41
      go_wp2_with fail
      refine wp_loop_rounds 1 ?_
      rw [rounds_succ]
      go_wp2_with (at_builtin; (refine append_row er30 (base := w.heap.size) (n := 0) (xs := []) (news := []) (by rfl) (by rfl) (World.ownsRow_nil _ _ _ _) (by rfl) (by rfl) (by rfl) (fun j u h => by simp at h) (fun u h => by simp at h) (by omega) (by omega) (Nat.le_refl _) ?_); intro v' w1 hown1 _ hb1)
      go_ret
      exact ⟨_, rfl, RowAt.owned hown1, Fresh.owned hown1, hb1⟩
  · have H := Lib.hid h
    have HC := Lib.hid hcell
    clear h hcell
    go_enter Tryd.func41, Tryd.ntmps41
    go_wp2_with fail
    go_loop [3] (fun i => ∃ k : Nat, k ≤ l.length ∧ i = .int .i64 k ∧ Hid (bval (l.drop k) = 0)) (fun i => (intOf i).toNat)
    case atStart => exact ⟨l.length, Nat.le_refl _, rfl, Lib.hid (by rw [List.drop_length]; rfl)⟩
    case round =>
      obtain ⟨k, hk, rfl, hP⟩ := hrel
      by_cases h0 : 0 < k
      · obtain ⟨m, rfl⟩ : ∃ m, k = m + 1 := ⟨k - 1, by omega⟩
        have hcm := HC.out m (by omega)
        cases hz : bnth l m
        · have HZ : Hid (bval (l.drop m) = 0) := Lib.hid (bval_drop_step (by omega) hz hP.out)
          go_wp2_with fail
          go_round
          case rel => exact ⟨m, by omega, by go_num, HZ⟩
          case measure => simp [intOf]
        · have hN : Hid (bitsN (bval l) = l.take (m + 1)) := Lib.hid (bits_trim l (m+1) hP.out (bnorm_take hk hz))
          go_wp2_with (at_builtin; (refine append_row er30 (base := w.heap.size) (n := 0) (xs := []) (news := (l.take (m + 1)).map Value.bool) (by rfl) (by rfl) (World.ownsRow_nil _ _ _ _) (by rfl) (by rfl) (by rw [List.length_map, List.length_take]; omega) (bit_cells HC.out (m + 1)) (bool_one _) (by omega) (by omega) (Nat.le_refl _) ?_); intro v' w1 hown1 _ hb1)
          go_ret
          exact ⟨_, rfl, by rw [hN.out]; exact RowAt.owned hown1, Fresh.owned hown1, hb1⟩
      · obtain rfl : k = 0 := by omega
        have hN : Hid (bitsN (bval l) = []) := Lib.hid (by have := hP.out; rw [List.drop_zero] at this; rw [this]; rfl)
        clear h0
        go_wp2_with (at_builtin; (refine append_row er30 (base := w.heap.size) (n := 0) (xs := []) (news := []) (by rfl) (by rfl) (World.ownsRow_nil _ _ _ _) (by rfl) (by rfl) (by rfl) (fun j u h => by simp at h) (fun u h => by simp at h) (by omega) (by omega) (Nat.le_refl _) ?_); intro v' w1 hown1 _ hb1)
        go_ret
        exact ⟨_, rfl, by rw [hN.out]; exact RowAt.owned hown1, Fresh.owned hown1, hb1⟩

set_option maxHeartbeats 4000000 in
theorem rsub_own (va vb : Value) (n m : Nat) (w : World) (ha : BitAt w va (bitsN n)) (hb : BitAt w vb (bitsN m)) (h1 : (bitsN n).length ≤ 100000) (h2 : m ≤ n) :
    Calls Tryd.prog 24 #[va, vb] w fun e w' => ∃ v', e = .returned v' ∧ BitAt w' v' (bitsN (n - m)) ∧ Fresh w.heap.size v' ∧ Below w.heap.size w w' := by
  have hge : bval (bitsN m) ≤ bval (bitsN n) := by rw [bval_bits, bval_bits]; exact h2
  have hba : bval (bitsN m) = bval ((bitsN m).take (bitsN n).length) := by rw [List.take_of_length_le (bits_len_mono h2)]
  obtain ⟨a, hA⟩ : ∃ a, bitsN n = a := ⟨_, rfl⟩
  obtain ⟨b, hB⟩ : ∃ b, bitsN m = b := ⟨_, rfl⟩
  have hR : Hid (bval a - bval b = n - m) := Lib.hid (by rw [← hA, ← hB, bval_bits, bval_bits])
  rw [hA] at ha hge hba h1
  rw [hB] at hb hge hba
  clear hA hB h2
  obtain ⟨p1, c1, rfl⟩ := ha.shape
  obtain ⟨p2, c2, rfl⟩ := hb.shape
  have HA := Lib.hid ha
  have HB := Lib.hid hb
  have HGE := Lib.hid hge
  have HBA := Lib.hid hba
  clear ha hb hge hba
  go_enter Tryd.func24, Tryd.ntmps24
  go_wp2_with fail
  go_loopw [5, 6, 7] (fun v c i wr => ∃ k : Nat, ∃ cb : Bool, ∃ o : List Bool, k ≤ a.length ∧ o.length = k ∧ i = .int .i64 k ∧ c = .bool cb ∧ wr.ownsRow w.heap.size 4 1 v k (o.map Value.bool) ∧ Below w.heap.size w wr ∧
      Hid (bval o + bval (b.take k) = bval (a.take k) + 2 ^ k * bN cb)) (fun _ _ i _ => a.length - (intOf i).toNat)
  case atStart => exact ⟨0, false, [], by omega, rfl, rfl, rfl, World.ownsRow_nil _ _ _ _, Below.refl _ _, Lib.hid (by simp [bval, bN])⟩
  case round =>
    obtain ⟨k, cb, o, hk, hol, rfl, rfl, hown, hbel, hP⟩ := hrel
    have HOL := Lib.hid hol
    clear hol
    by_cases hlt : k < a.length
    · have LA := Lib.hid (at_any _ a k wr (HA.out.keep hbel))
      have LB := Lib.hid (at_any _ b k wr (HB.out.keep hbel))
      have hst := bsub_step (a := a) (b := b) HOL.out hP.out
      have HST := Lib.hid hst
      clear hst
      cases hx : bnth a k <;> cases hy : bnth b k <;> cases cb
      all_goals
        go_wp2_with (first
          | (go_at_call 44; ((with_reducible refine LA.out.mono ?_); rintro e w4 ⟨rfl, rfl⟩))
          | (go_at_call 44; ((with_reducible refine LB.out.mono ?_); rintro e w5 ⟨rfl, rfl⟩))
          | (at_builtin; go_must (refine append_one er30 rfl rfl hown rfl rfl rfl (by simp [Value.oneCell']) (by omega) (by omega) hbel.size ?_); intro v' w1 hown1 _ hb1 hne1))
        go_roundw
        case rel =>
          refine ⟨k + 1, _, o ++ [_], by omega, by rw [List.length_append, HOL.out]; rfl, by go_num, rfl, by rw [List.map_append]; exact hown1, hbel.trans hb1, Lib.hid ?_⟩
          have := HST.out
          rw [hx, hy] at this
          exact this
        case measure => simp [intOf]; omega
    · obtain rfl : k = a.length := by omega
      have hval : Hid (bval o = n - m) := Lib.hid (by
        have h1 := hP.out
        have h2 := HGE.out
        rw [bval_take_all (l := a) (by omega), ← HBA.out] at h1
        have h3 := bval_lt o
        rw [HOL.out] at h3
        rw [← hR.out]
        cases cb
        · simp [bN] at h1; omega
        · simp [bN] at h1; omega)
      have HBT : Hid (BitAt wr u5 o) := Lib.hid (RowAt.owned hown)
      have hol2 : o.length ≤ 1000000 := by rw [HOL.out]; omega
      have HL := Lib.hid hol2
      clear hown hol2
      go_wp2_with (go_at_call 41; refine (rtrim_own _ _ _ HBT.out HL.out).mono ?_; rw [hval.out]; rintro e w4 ⟨v4, rfl, hv4, hf4, hb4⟩)
      go_ret
      exact ⟨_, rfl, hv4, hf4.mono hbel.size, bel2' hbel hb4⟩

end Go.Proofs.YteobjelenfjifaaDoor
