import Derived.Test.YtlhkjkhbgebgiaaGO
namespace Go.Proofs.Ytlhkjkhbgebgiaa
open Go.RowKit Go.Proofs.Kit Go.Proofs.Nums

/-- v lies in no block below B. -/
def Fresh (B : Nat) (v : Value) : Prop := ∀ b, v.ownBlock = some b → B ≤ b
theorem Fresh.nil (B : Nat) : Fresh B (.slice none 0 0) := fun b h => by simp [Value.ownBlock] at h
theorem Fresh.owned {w : World} {B : Nat} {e : TypeId} {v : Value} {n : Nat} {cs : List Value} (h : w.ownsRow B e 1 v n cs) : Fresh B v := fun b hb => (h.lt b hb).1
theorem Fresh.mono {B B' : Nat} {v : Value} (h : Fresh B v) (hB : B' ≤ B) : Fresh B' v := fun b hb => Nat.le_trans hB (h b hb)

theorem BitAt.put {w : World} {v : Value} {l : List Bool} {g o : Nat} {u : Value} (h : BitAt w v l) (hg : Fresh (g + 1) v) : BitAt (w.setCell ⟨g, o, none⟩ u) v l :=
  RowAt.same h fun b hb => Below.heap_setCell w _ u b (by have := hg b hb; simp; omega)

set_option maxHeartbeats 1000000 in
theorem rtrim_own (v : Value) (l : List Bool) (w : World) (h : BitAt w v l) (hl : l.length ≤ 1000000) :
    Calls Try.prog 53 #[v] w fun e w' => ∃ v', e = .returned v' ∧ BitAt w' v' (bitsN (bval l)) ∧ Fresh w.heap.size v' ∧ Below w.heap.size w w' := by
  rcases h.cases with ⟨rfl, p, cap, rfl, _, _⟩ | ⟨h1, b, off, cap, rfl, hc, hm, hb, hcell⟩
  · clear h hl
    cases p with
    | none =>
      go_enter Try.func53, Try.ntmps53
      go_wp2_with fail
      refine wp_loop_rounds 1 ?_
      rw [rounds_succ]
      go_wp2_with (at_builtin; refine append_nil er65 (base := w.heap.size) (n := 0) (xs := []) (by rfl) (by rfl) (World.ownsRow_nil _ _ _ _) (by rfl) (by rfl) ?_)
      go_ret
      exact ⟨_, rfl, BitAt.nil w, Fresh.nil _, Below.refl _ _⟩
    | some q =>
      go_enter Try.func53, Try.ntmps53
      go_wp2_with fail
      refine wp_loop_rounds 1 ?_
      rw [rounds_succ]
      go_wp2_with (at_builtin; (refine append_row er65 (base := w.heap.size) (n := 0) (xs := []) (news := []) (by rfl) (by rfl) (World.ownsRow_nil _ _ _ _) (by rfl) (by rfl) (by rfl) (fun j u h => by simp at h) (fun u h => by simp at h) (by omega) (by omega) (Nat.le_refl _) ?_); intro v' w1 hown1 _ hb1)
      go_ret
      exact ⟨_, rfl, RowAt.owned hown1, Fresh.owned hown1, hb1⟩
  · have H := Lib.hid h
    have HC := Lib.hid hcell
    clear h hcell
    go_enter Try.func53, Try.ntmps53
    go_wp2_with fail
    go_loop [3] (fun i => ∃ k : Nat, k ≤ l.length ∧ i = .int .i64 k ∧ Hid (bval (l.drop k) = 0)) (fun i => (intOf i).toNat)
    case atStart => exact ⟨l.length, Nat.le_refl _, rfl, Lib.hid (by rw [List.drop_length]; rfl)⟩
    case round =>
      obtain ⟨k, hk, rfl, hP⟩ := hrel
      by_cases h0 : 0 < k
      · obtain ⟨m, rfl⟩ : ∃ m, k = m + 1 := ⟨k - 1, by omega⟩
        have hcm := HC.out m (by omega)
        cases hz : bnth l m
        · have HZ : Hid (bval (l.drop m) = 0) := Lib.hid (bval_drop_step (by omega) hz hP.out)
          go_wp2_with fail
          go_round
          case rel => exact ⟨m, by omega, by go_num, HZ⟩
          case measure => simp [intOf]
        · have hN : Hid (bitsN (bval l) = l.take (m + 1)) := Lib.hid (bits_trim l (m+1) hP.out (bnorm_take hk hz))
          go_wp2_with (at_builtin; (refine append_row er65 (base := w.heap.size) (n := 0) (xs := []) (news := (l.take (m + 1)).map Value.bool) (by rfl) (by rfl) (World.ownsRow_nil _ _ _ _) (by rfl) (by rfl) (by rw [List.length_map, List.length_take]; omega) (bit_cells HC.out (m + 1)) (bool_one _) (by omega) (by omega) (Nat.le_refl _) ?_); intro v' w1 hown1 _ hb1)
          go_ret
          exact ⟨_, rfl, by rw [hN.out]; exact RowAt.owned hown1, Fresh.owned hown1, hb1⟩
      · obtain rfl : k = 0 := by omega
        have hN : Hid (bitsN (bval l) = []) := Lib.hid (by have := hP.out; rw [List.drop_zero] at this; rw [this]; rfl)
        clear h0
        go_wp2_with (at_builtin; (refine append_row er65 (base := w.heap.size) (n := 0) (xs := []) (news := []) (by rfl) (by rfl) (World.ownsRow_nil _ _ _ _) (by rfl) (by rfl) (by rfl) (fun j u h => by simp at h) (fun u h => by simp at h) (by omega) (by omega) (Nat.le_refl _) ?_); intro v' w1 hown1 _ hb1)
        go_ret
        exact ⟨_, rfl, by rw [hN.out]; exact RowAt.owned hown1, Fresh.owned hown1, hb1⟩

set_option maxHeartbeats 4000000 in
theorem rsub_own (va vb : Value) (n m : Nat) (w : World) (ha : BitAt w va (bitsN n)) (hb : BitAt w vb (bitsN m)) (h1 : (bitsN n).length ≤ 100000) (h2 : m ≤ n) :
    Calls Try.prog 76 #[va, vb] w fun e w' => ∃ v', e = .returned v' ∧ BitAt w' v' (bitsN (n - m)) ∧ Fresh w.heap.size v' ∧ Below w.heap.size w w' := by
  have hge : bval (bitsN m) ≤ bval (bitsN n) := by rw [bval_bits, bval_bits]; exact h2
  have hba : bval (bitsN m) = bval ((bitsN m).take (bitsN n).length) := by rw [List.take_of_length_le (bits_len_mono h2)]
  obtain ⟨a, hA⟩ : ∃ a, bitsN n = a := ⟨_, rfl⟩
  obtain ⟨b, hB⟩ : ∃ b, bitsN m = b := ⟨_, rfl⟩
  have hR : Hid (bval a - bval b = n - m) := Lib.hid (by rw [← hA, ← hB, bval_bits, bval_bits])
  rw [hA] at ha hge hba h1
  rw [hB] at hb hge hba
  clear hA hB h2
  obtain ⟨p1, c1, rfl⟩ := ha.shape
  obtain ⟨p2, c2, rfl⟩ := hb.shape
  have HA := Lib.hid ha
  have HB := Lib.hid hb
  have HGE := Lib.hid hge
  have HBA := Lib.hid hba
  clear ha hb hge hba
  go_enter Try.func76, Try.ntmps76
  go_wp2_with fail
  go_loopw [5, 6, 7] (fun v c i wr => ∃ k : Nat, ∃ cb : Bool, ∃ o : List Bool, k ≤ a.length ∧ o.length = k ∧ i = .int .i64 k ∧ c = .bool cb ∧ wr.ownsRow w.heap.size 4 1 v k (o.map Value.bool) ∧ Below w.heap.size w wr ∧
      Hid (bval o + bval (b.take k) = bval (a.take k) + 2 ^ k * bN cb)) (fun _ _ i _ => a.length - (intOf i).toNat)
  case atStart => exact ⟨0, false, [], by omega, rfl, rfl, rfl, World.ownsRow_nil _ _ _ _, Below.refl _ _, Lib.hid (by simp [bval, bN])⟩
  case round =>
    obtain ⟨k, cb, o, hk, hol, rfl, rfl, hown, hbel, hP⟩ := hrel
    have HOL := Lib.hid hol
    clear hol
    by_cases hlt : k < a.length
    · have LA := Lib.hid (at_any _ a k wr (HA.out.keep hbel))
      have LB := Lib.hid (at_any _ b k wr (HB.out.keep hbel))
      have hst := bsub_step (a := a) (b := b) HOL.out hP.out
      have HST := Lib.hid hst
      clear hst
      cases hx : bnth a k <;> cases hy : bnth b k <;> cases cb
      all_goals
        go_wp2_with (first
          | (go_at_call 54; ((with_reducible refine LA.out.mono ?_); rintro e w4 ⟨rfl, rfl⟩))
          | (go_at_call 54; ((with_reducible refine LB.out.mono ?_); rintro e w5 ⟨rfl, rfl⟩))
          | (at_builtin; go_must (refine append_one er65 rfl rfl hown rfl rfl rfl (by simp [Value.oneCell']) (by omega) (by omega) hbel.size ?_); intro v' w1 hown1 _ hb1 hne1))
        go_roundw
        case rel =>
          refine ⟨k + 1, _, o ++ [_], by omega, by rw [List.length_append, HOL.out]; rfl, by go_num, rfl, by rw [List.map_append]; exact hown1, hbel.trans hb1, Lib.hid ?_⟩
          have := HST.out
          rw [hx, hy] at this
          exact this
        case measure => simp [intOf]; omega
    · obtain rfl : k = a.length := by omega
      have hval : Hid (bval o = n - m) := Lib.hid (by
        have h1 := hP.out
        have h2 := HGE.out
        rw [bval_take_all (l := a) (by omega), ← HBA.out] at h1
        have h3 := bval_lt o
        rw [HOL.out] at h3
        rw [← hR.out]
        cases cb
        · simp [bN] at h1; omega
        · simp [bN] at h1; omega)
      have HBT : Hid (BitAt wr u5 o) := Lib.hid (RowAt.owned hown)
      have hol2 : o.length ≤ 1000000 := by rw [HOL.out]; omega
      have HL := Lib.hid hol2
      clear hown hol2
      go_wp2_with (go_at_call 53; refine (rtrim_own _ _ _ HBT.out HL.out).mono ?_; rw [hval.out]; rintro e w4 ⟨v4, rfl, hv4, hf4, hb4⟩)
      go_ret
      exact ⟨_, rfl, hv4, hf4.mono hbel.size, bel2' hbel hb4⟩

end Go.Proofs.Ytlhkjkhbgebgiaa

namespace Go.Proofs.Ytlhkjkhbgebgiaa
open Go.RowKit Go.Proofs.Kit Go.Proofs.Nums

theorem bit_val (m : Nat) : Value.bool ((m : Int) % 2 == 1) = Value.bool (m % 2 == 1) := by
  congr 1
  rw [Bool.eq_iff_iff]; simp; omega

set_option maxHeartbeats 2000000 in
theorem small_f (N : Nat) (w : World) (hN : N ≤ 1000000) :
    Calls Try.prog 66 #[.int .i64 N] w fun e w' => ∃ v', e = .returned v' ∧ BitAt w' v' (bitsN N) ∧ Fresh w.heap.size v' ∧ Below w.heap.size w w' := by
  go_enter Try.func66, Try.ntmps66
  go_wp2_with fail
  go_loopw [0, 3] (fun nv bv wr => ∃ m k : Nat, ∃ o : List Bool, m ≤ N ∧ k + m ≤ N ∧ nv = .int .i64 m ∧ wr.ownsRow w.heap.size 4 1 bv k (o.map Value.bool) ∧ Below w.heap.size w wr ∧ Hid (bitsN N = o ++ bitsN m)) (fun nv _ _ => (intOf nv).toNat)
  case atStart => exact ⟨N, 0, [], by omega, by omega, rfl, World.ownsRow_nil _ _ _ _, Below.refl _ _, Lib.hid rfl⟩
  case round =>
    obtain ⟨m, k, o, hm, hkm, rfl, hown, hbel, hP⟩ := hrel
    by_cases h0 : 0 < m
    · have HS : Hid (bitsN N = (o ++ [(m % 2 == 1)]) ++ bitsN (m / 2)) := Lib.hid (by rw [hP.out, bits_pos m (by omega), List.append_assoc]; rfl)
      go_wp2_with (at_builtin; go_must (refine append_one er65 rfl rfl hown rfl rfl rfl (by simp [Value.oneCell']) (by omega) (by omega) hbel.size ?_); intro v' w1 hown1 _ hb1 hne1)
      go_roundw
      case rel =>
        refine ⟨m / 2, k + 1, o ++ [(m % 2 == 1)], by omega, by omega, by go_num, ?_, hbel.trans hb1, HS⟩
        rw [List.map_append, List.map_cons, List.map_nil, ← bit_val]
        exact hown1
      case measure => simp [intOf] <;> omega
    · obtain rfl : m = 0 := by omega
      have hE : Hid (o = bitsN N) := Lib.hid (by rw [hP.out, bits_zero, List.append_nil])
      have HR := Lib.hid (RowAt.owned hown)
      have HF := Lib.hid (Fresh.owned hown)
      clear hown
      go_wp2_with fail
      go_ret
      exact ⟨_, rfl, by rw [← hE.out]; exact HR.out, HF.out, hbel⟩

theorem small_any (N : Nat) (w : World) (hN : N ≤ 1000000) :
    Calls Try.prog 66 #[.int .i64 N] w fun e w' => ∃ v', e = .returned v' ∧ BitAt w' v' (bitsN N) ∧ Below w.heap.size w w' :=
  (small_f N w hN).mono fun _ _ ⟨v', h1, h2, _, h3⟩ => ⟨v', h1, h2, h3⟩

/-- An array of bits of the call's own. -/
def OwnBits (w : World) (base g n cap : Nat) (o : List Bool) : Prop := o.length = n ∧ w.ownsRow base 4 1 (.slice (some ⟨g, 0, none⟩) n cap) n (o.map Value.bool)

theorem OwnBits.read {w : World} {base g n cap : Nat} {o : List Bool} (h : OwnBits w base g n cap o) : BitAt w (.slice (some ⟨g, 0, none⟩) n cap) o := RowAt.owned h.2
theorem OwnBits.cell {w : World} {base g n cap : Nat} {o : List Bool} (h : OwnBits w base g n cap o) {j : Nat} (hj : j < n) : w.cell? ⟨g, j, none⟩ = some (.bool (bnth o j)) := by
  rw [h.2.cellAt j (by omega), List.getElem?_map, List.getElem?_eq_getElem (by rw [h.1]; exact hj), bnth_lt (by rw [h.1]; exact hj)]; rfl
theorem OwnBits.free {w : World} {base g n cap : Nat} {o : List Bool} (h : OwnBits w base g n cap o) (j : Nat) : w.frozen? ⟨g, j, none⟩ = false := h.2.frozenAt j
theorem OwnBits.put {w : World} {base g n cap : Nat} {o : List Bool} (h : OwnBits w base g n cap o) (j : Nat) (x : Bool) :
    OwnBits (w.setCell ⟨g, j, none⟩ (.bool x)) base g n cap (o.set j x) ∧ Below base w (w.setCell ⟨g, j, none⟩ (.bool x)) := by
  have hs := h.2.stored j (.bool x)
  refine ⟨⟨by rw [List.length_set]; exact h.1, ?_⟩, ?_⟩
  · rw [List.map_set]; exact hs.1
  · exact (Below.refl base w).setCell (h.2.lt g rfl).1 _
theorem OwnBits.lt {w : World} {base g n cap : Nat} {o : List Bool} (h : OwnBits w base g n cap o) : base ≤ g ∧ g < w.heap.size := h.2.lt g rfl
theorem OwnBits.keep {w w' : World} {base g n cap : Nat} {o : List Bool} (h : OwnBits w base g n cap o) (hb : Below w.heap.size w w') : OwnBits w' base g n cap o := ⟨h.1, ownsRow_below h.2 hb⟩
theorem OwnBits.made {w : World} {base g n cap : Nat} (h : w.ownsRow base 4 1 (.slice (some ⟨g, 0, none⟩) n cap) n (madeCells (Value.bool false).cells (n * 1)).toList) : OwnBits w base g n cap (List.replicate n false) := by
  refine ⟨List.length_replicate, ?_⟩
  rw [show (Value.bool false).cells = #[.bool false] from rfl, toList_madeCells_one, Nat.mul_one] at h
  rw [List.map_replicate]; exact h

theorem bits_len2 {R m b : Nat} (h : R < m) (hb : b ≤ 1) (hm : (bitsN m).length ≤ 40000) : (bitsN (b + 2 * R)).length ≤ 40001 := by
  refine Nat.le_trans (bits_len_le _ ((bitsN m).length + 1) ?_) (by omega)
  have := bits_lt_pow m
  rw [Nat.pow_succ]; omega

end Go.Proofs.Ytlhkjkhbgebgiaa

namespace Go.Proofs.Ytlhkjkhbgebgiaa
open Go.RowKit Go.Proofs.Kit Go.Proofs.Nums

theorem lit_bit (w : World) (x : Bool) : (w.alloc (.cells #[.bool x] 4)).ownsRow w.heap.size 4 1 (.slice (some ⟨w.heap.size, 0, none⟩) 1 1) 1 [.bool x] :=
  World.ownsRow_lit w #[.bool x] 1 (Nat.le_refl _) (by unfold maxLen; omega) rfl

set_option maxHeartbeats 4000000 in
theorem rdiv_f (va vb : Value) (n m : Nat) (w : World) (ha : BitAt w va (bitsN n)) (hb : BitAt w vb (bitsN m)) (h1 : (bitsN n).length ≤ 40000) (h2 : (bitsN m).length ≤ 40000) (hm : 0 < m) :
    Calls Try.prog 75 #[va, vb] w fun e w' => ∃ vq vr, e = .returned (.tuple #[vq, vr]) ∧ BitAt w' vq (bitsN (n / m)) ∧ BitAt w' vr (bitsN (n % m)) ∧ Fresh w.heap.size vq ∧ Fresh w.heap.size vr ∧ Below w.heap.size w w' := by
  obtain ⟨a, hA⟩ : ∃ a, bitsN n = a := ⟨_, rfl⟩
  have hN : Hid (bval a = n) := Lib.hid (by rw [← hA, bval_bits])
  rw [hA] at ha h1
  have H2 := Lib.hid h2
  have HM := Lib.hid hm
  have HST := Lib.hid (BDiv.start a m hm)
  clear hA h2 hm
  obtain ⟨p1, c1, rfl⟩ := ha.shape
  have HA := Lib.hid ha
  have HB := Lib.hid hb
  clear ha hb
  go_enter Try.func75, Try.ntmps75
  go_wp2_with (at_make; go_must (refine make_any er65 rfl rfl rfl rfl (by omega) (by omega) (by omega) ?_); intro w3 hown3 hb3)
  have hown := OwnBits.made hown3
  clear hown3
  go_loopw [7, 8] (fun rv i wr => ∃ k R : Nat, ∃ q : List Bool, k ≤ a.length ∧ i = .int .i64 ((k : Int) - 1) ∧ Hid (BDiv a q m R k) ∧ OwnBits wr w.heap.size w.heap.size a.length a.length q ∧ BitAt wr rv (bitsN R) ∧ Fresh (w.heap.size + 1) rv ∧ Below w.heap.size w wr) (fun _ i _ => (intOf i + 1).toNat)
  case atStart => exact ⟨a.length, 0, _, by omega, by go_num, HST, hown, BitAt.nil _, Fresh.nil _, hb3⟩
  case round =>
    obtain ⟨k, R, q, hk, rfl, hP, hO, hR, hF, hbel⟩ := hrel
    by_cases h0 : 0 < k
    · obtain ⟨j, rfl⟩ : ∃ j, k = j + 1 := ⟨k - 1, by omega⟩
      rw [show ((j + 1 : Nat) : Int) - 1 = (j : Int) by omega]
      rcases (HA.out.keep hbel).cases with ⟨hx0, _⟩ | ⟨_, b1, o1, k1, hv1, hk1, hm1, hb1, hcell1⟩
      · rw [hx0] at hk; simp at hk
      simp only [Value.slice.injEq] at hv1
      obtain ⟨rfl, _, rfl⟩ := hv1
      have q1 := hcell1 j (by omega)
      clear hcell1
      obtain ⟨bj, hbj⟩ : ∃ bj, bnth a j = bj := ⟨_, rfl⟩
      rw [hbj] at q1
      have HBJ := Lib.hid hbj
      have HRA : Hid (RowAt (wr.alloc (.cells #[.bool bj] 4)) u7 ((bitsN R).map Value.bool)) := Lib.hid (RowAt.alloc hR _)
      have hX := bits_len2 hP.out.2.2.1 (bN_le bj) H2.out
      obtain ⟨X, hXX⟩ : ∃ X, bN bj + 2 * R = X := ⟨_, rfl⟩
      have hRL := bits_len_mono (show R ≤ X by omega)
      rw [hXX] at hX
      have HX := Lib.hid hX
      have HRL : Hid ((bitsN R).length ≤ 40001) := Lib.hid (by omega)
      have TRIM : Hid (∀ v w, BitAt w v (bj :: bitsN R) → Calls Try.prog 53 #[v] w fun e w' => ∃ v', e = .returned v' ∧ BitAt w' v' (bitsN X) ∧ Fresh w.heap.size v' ∧ Below w.heap.size w w') := Lib.hid (fun v w h => by
        have := rtrim_own v _ w h (by rw [List.length_cons]; have := HRL.out; omega)
        rw [bval, bval_bits, hXX] at this; exact this)
      have HOw := Lib.hid hO
      have OLT := hO.lt
      have HXX := Lib.hid hXX
      clear hR hO hbj hX hXX hRL
      by_cases hlt : X < m
      · have CMP : Hid (∀ v w, BitAt w v (bitsN X) → BitAt w vb (bitsN m) → Calls Try.prog 38 #[v, vb] w fun e w' => e = .returned (.int .i64 (-1)) ∧ Below w.heap.size w w') := Lib.hid (fun v w h h' => by
          have := rcmp_n v vb X m w h h' (Nat.le_trans HX.out (by omega)) (Nat.le_trans H2.out (by omega))
          rw [cmpN_lt hlt] at this; exact this)
        have HN : Hid (BDiv a q m X j) := Lib.hid (by have := BDiv.less hP.out (by omega) (by rw [HBJ.out, HXX.out]; exact hlt); rw [HBJ.out, HXX.out] at this; exact this)
        clear hlt
        go_wp2_with (first
          | (at_builtin; go_must (refine append_read er65 (by rfl) (by rfl) (lit_bit wr bj) (by rfl) HRA.out (by rfl) (bool_one _) (by rw [List.length_map]; have := HRL.out; omega) (by rw [List.length_map]; have := HRL.out; omega) (by simp) ?_); intro v' w1 hown1 hb1; have hv1 : BitAt w1 v' (bj :: bitsN R) := RowAt.owned hown1; clear hown1; have hb1' := below_new hb1)
          | (go_at_call 53; ((with_reducible refine (TRIM.out _ _ hv1).mono ?_); rintro e w4 ⟨v4, rfl, hv4, hf4, hb4⟩; have hb4' := bel2' hb1' hb4; have hb4'' := bel2' hbel hb4'))
          | (go_at_call 38; ((with_reducible refine (CMP.out _ _ hv4 (HB.out.keep hb4'')).mono ?_); rintro e w5 ⟨rfl, hb5⟩; have hb5' := bel2' hb4' hb5; have hb5'' := bel2' hb4'' hb5)))
        go_roundw
        case rel =>
          exact ⟨j, X, q, by omega, by go_num, HN, HOw.out.keep hb5', hv4.keep hb5, hf4.mono (by have := hb1'.size; omega), hb5''⟩
        case measure => simp [intOf] <;> omega
      · obtain ⟨c, hc⟩ : ∃ c, cmpN X m = c := ⟨_, rfl⟩
        have hc0 : 0 ≤ c := by rw [← hc]; unfold cmpN; rw [if_neg hlt]; split <;> omega
        have CMP : Hid (∀ v w, BitAt w v (bitsN X) → BitAt w vb (bitsN m) → Calls Try.prog 38 #[v, vb] w fun e w' => e = .returned (.int .i64 c) ∧ Below w.heap.size w w') := Lib.hid (fun v w h h' => by
          have := rcmp_n v vb X m w h h' (Nat.le_trans HX.out (by omega)) (Nat.le_trans H2.out (by omega))
          rw [hc] at this; exact this)
        have SUB : Hid (∀ v w, BitAt w v (bitsN X) → BitAt w vb (bitsN m) → Calls Try.prog 76 #[v, vb] w fun e w' => ∃ v', e = .returned v' ∧ BitAt w' v' (bitsN (X - m)) ∧ Fresh w.heap.size v' ∧ Below w.heap.size w w') := Lib.hid (fun v w h h' =>
          rsub_own v vb X m w h h' (Nat.le_trans HX.out (by omega)) (by omega))
        have HN : Hid (BDiv a (q.set j true) m (X - m) j) := Lib.hid (by have := BDiv.more hP.out (by omega) (by rw [HBJ.out, HXX.out]; omega); rw [HBJ.out, HXX.out] at this; exact this)
        clear hlt hc
        go_wp2_with (first
          | (at_builtin; go_must (refine append_read er65 (by rfl) (by rfl) (lit_bit wr bj) (by rfl) HRA.out (by rfl) (bool_one _) (by rw [List.length_map]; have := HRL.out; omega) (by rw [List.length_map]; have := HRL.out; omega) (by simp) ?_); intro v' w1 hown1 hb1; have hv1 : BitAt w1 v' (bj :: bitsN R) := RowAt.owned hown1; clear hown1; have hb1' := below_new hb1)
          | (go_at_call 53; ((with_reducible refine (TRIM.out _ _ hv1).mono ?_); rintro e w4 ⟨v4, rfl, hv4, hf4, hb4⟩; have hb4' := bel2' hb1' hb4; have hb4'' := bel2' hbel hb4'))
          | (go_at_call 38; ((with_reducible refine (CMP.out _ _ hv4 (HB.out.keep hb4'')).mono ?_); rintro e w5 ⟨rfl, hb5⟩; have hb5' := bel2' hb4' hb5; have hb5'' := bel2' hb4'' hb5))
          | (go_at_call 76; ((with_reducible refine (SUB.out _ _ (hv4.keep hb5) (HB.out.keep hb5'')).mono ?_); rintro e w6 ⟨v6, rfl, hv6, hf6, hb6⟩; have hb6' := bel2' hb5' hb6; have hb6'' := bel2' hb5'' hb6; have hO6 := HOw.out.keep hb6'; have hcl := hO6.cell (j := j) (by omega); have hfr := hO6.free j; have hput := hO6.put j true; have hf6' : Fresh (w.heap.size + 1) v6 := hf6.mono (by have := hb5'.size; omega); have hr6 : BitAt (w6.setCell ⟨w.heap.size, j, none⟩ (.bool true)) v6 (bitsN (X - m)) := BitAt.put hv6 hf6'; have HO6 := Lib.hid hO6; have HPUT := Lib.hid hput; clear hO6 hput)))
        go_roundw
        case rel =>
          exact ⟨j, X - m, q.set j true, by omega, by go_num, HN, HPUT.out.1, hr6, hf6', hb6''.trans HPUT.out.2⟩
        case measure => simp [intOf] <;> omega
    · obtain rfl : k = 0 := by omega
      have hD : Hid (bval q = n / m ∧ R = n % m) := Lib.hid (by have := BDiv.done hP.out; rw [hN.out] at this; exact this)
      have HQ := Lib.hid hO.read
      have HR := Lib.hid hR
      have HQL : Hid (q.length ≤ 1000000) := Lib.hid (by rw [hO.1]; omega)
      clear hO hR
      go_wp2_with (go_at_call 53; refine (rtrim_own _ _ _ HQ.out HQL.out).mono ?_; rw [hD.out.1]; rintro e w4 ⟨v4, rfl, hv4, hf4, hb4⟩)
      go_ret2
      exact ⟨_, _, rfl, hv4, by rw [← hD.out.2]; exact HR.out.keep hb4, hf4.mono hbel.size, hF.mono (Nat.le_succ _), bel2' hbel hb4⟩

theorem rdiv_n (va vb : Value) (n m : Nat) (w : World) (ha : BitAt w va (bitsN n)) (hb : BitAt w vb (bitsN m)) (h1 : (bitsN n).length ≤ 40000) (h2 : (bitsN m).length ≤ 40000) (hm : 0 < m) :
    Calls Try.prog 75 #[va, vb] w fun e w' => ∃ vq vr, e = .returned (.tuple #[vq, vr]) ∧ BitAt w' vq (bitsN (n / m)) ∧ BitAt w' vr (bitsN (n % m)) ∧ Below w.heap.size w w' :=
  (rdiv_f va vb n m w ha hb h1 h2 hm).mono fun _ _ ⟨vq, vr, h1, h2, h3, _, _, h4⟩ => ⟨vq, vr, h1, h2, h3, h4⟩

end Go.Proofs.Ytlhkjkhbgebgiaa

namespace Go.Proofs.Ytlhkjkhbgebgiaa
open Go.RowKit Go.Proofs.Kit Go.Proofs.Nums

theorem RowAt.uniq {w : World} {v : Value} {cs cs' : List Value} (h : RowAt w v cs) (h' : RowAt w v cs') : cs = cs' := by
  obtain ⟨p, c, rfl, h1, h2, h3, h4⟩ := h
  obtain ⟨p', c', hv, k1, k2, k3, k4⟩ := h'
  simp only [Value.slice.injEq] at hv
  obtain ⟨rfl, hl, rfl⟩ := hv
  refine List.ext_getElem hl fun i i1 i2 => ?_
  cases p with
  | none => have := h3 rfl; omega
  | some q =>
    have e1 := h4 q rfl i _ (List.getElem?_eq_getElem i1)
    have e2 := k4 q rfl i _ (List.getElem?_eq_getElem i2)
    rw [e1] at e2
    exact Option.some.inj e2

theorem map_bool_inj : ∀ {a b : List Bool}, a.map Value.bool = b.map Value.bool → a = b
  | [], [], _ => rfl
  | [], _ :: _, h => by simp at h
  | _ :: _, [], h => by simp at h
  | x :: a, y :: b, h => by
    simp only [List.map_cons, List.cons.injEq, Value.bool.injEq] at h
    rw [h.1, map_bool_inj h.2]

theorem map_limb_inj : ∀ {a b : List Nat}, a.map limbV = b.map limbV → a = b
  | [], [], _ => rfl
  | [], _ :: _, h => by simp at h
  | _ :: _, [], h => by simp at h
  | x :: a, y :: b, h => by
    simp only [List.map_cons, List.cons.injEq, limbV, Value.int.injEq] at h
    rw [show x = y by omega, map_limb_inj h.2]

theorem BitAt.uniq {w : World} {v : Value} {n m : Nat} (h : BitAt w v (bitsN n)) (h' : BitAt w v (bitsN m)) : n = m := by
  have := map_bool_inj (RowAt.uniq h h')
  rw [← bval_bits n, this, bval_bits]

theorem NatAt.uniq {w : World} {v : Value} {n m : Nat} (h : NatAt w v (limbs n)) (h' : NatAt w v (limbs m)) : n = m := by
  have := map_limb_inj (RowAt.uniq h.1 h'.1)
  rw [← val_limbs n, this, val_limbs]

/-- The number that v denotes in w. -/
noncomputable def bitNum (w : World) (v : Value) : Nat := by
  classical exact if h : ∃ n, BitAt w v (bitsN n) then Classical.choose h else 0
theorem bitNum_eq {w : World} {v : Value} {n : Nat} (h : BitAt w v (bitsN n)) : bitNum w v = n := by
  have hx : ∃ n, BitAt w v (bitsN n) := ⟨n, h⟩
  unfold bitNum
  rw [dif_pos hx]
  exact BitAt.uniq (Classical.choose_spec hx) h
noncomputable def limbNum (w : World) (v : Value) : Nat := by
  classical exact if h : ∃ n, NatAt w v (limbs n) then Classical.choose h else 0
theorem limbNum_eq {w : World} {v : Value} {n : Nat} (h : NatAt w v (limbs n)) : limbNum w v = n := by
  have hx : ∃ n, NatAt w v (limbs n) := ⟨n, h⟩
  unfold limbNum
  rw [dif_pos hx]
  exact NatAt.uniq (Classical.choose_spec hx) h

theorem rtrim_n (v : Value) (n : Nat) (w : World) (h : BitAt w v (bitsN n)) (hl : (bitsN n).length ≤ 1000000) :
    Calls Try.prog 53 #[v] w fun e w' => ∃ v', e = .returned v' ∧ BitAt w' v' (bitsN n) ∧ Below w.heap.size w w' := by
  have := rtrim_any v _ w h hl
  rw [bval_bits] at this; exact this

theorem bits_len_pos {n : Nat} (h : 0 < n) : 0 < (bitsN n).length := List.length_pos_iff.2 fun e => by have := bits_eq_nil.1 e; omega

set_option maxHeartbeats 2000000 in
theorem rgcd_n (va vb : Value) (n m : Nat) (w : World) (ha : BitAt w va (bitsN n)) (hb : BitAt w vb (bitsN m)) (h1 : (bitsN n).length ≤ 40000) (h2 : (bitsN m).length ≤ 40000) :
    Calls Try.prog 74 #[va, vb] w fun e w' => ∃ v', e = .returned v' ∧ BitAt w' v' (bitsN (Nat.gcd n m)) ∧ Below w.heap.size w w' := by
  obtain ⟨G, hG⟩ : ∃ G, Nat.gcd n m = G := ⟨_, rfl⟩
  have HG := Lib.hid hG
  rw [hG]
  have H1 := Lib.hid h1
  have H2 := Lib.hid h2
  clear hG h1 h2
  go_enter Try.func74, Try.ntmps74
  go_wp2_with fail
  go_loopw [0, 1] (fun av bv wr => ∃ x y : Nat, BitAt wr av (bitsN x) ∧ BitAt wr bv (bitsN y) ∧ Hid ((bitsN x).length ≤ 40000) ∧ Hid ((bitsN y).length ≤ 40000) ∧ Hid (Nat.gcd x y = G) ∧ Below w.heap.size w wr) (fun _ bv wr => bitNum wr bv)
  case atStart => exact ⟨n, m, ha, hb, H1, H2, HG, Below.refl _ _⟩
  case round =>
    obtain ⟨x, y, hx, hy, hxl, hyl, hgc, hbel⟩ := hrel
    obtain ⟨p2, c2, rfl⟩ := hy.shape
    by_cases h0 : 0 < y
    · have hpos := bits_len_pos h0
      have HN : Hid (Nat.gcd y (x % y) = G) := Lib.hid (by rw [gcd_step]; exact hgc.out)
      have HL : Hid ((bitsN (x % y)).length ≤ 40000) := Lib.hid (Nat.le_trans (bits_len_mono (Nat.le_of_lt (Nat.mod_lt x h0))) hyl.out)
      have D := Lib.hid (rdiv_n _ _ x y wr hx hy hxl.out hyl.out h0)
      have HM := Lib.hid (bitNum_eq hy)
      have HLT := Lib.hid (Nat.mod_lt x h0)
      have HY := Lib.hid hy
      clear hx hy h0
      go_wp2_with (go_at_call 75; ((with_reducible refine D.out.mono ?_); rintro e w4 ⟨vq, vr, rfl, hvq, hvr, hb4⟩))
      go_roundw
      case rel => exact ⟨y, x % y, HY.out.keep hb4, hvr, hyl, HL, HN, bel2' hbel hb4⟩
      case measure => rw [HM.out, bitNum_eq hvr]; exact HLT.out
    · obtain rfl : y = 0 := by omega
      have HX : Hid (x = G) := Lib.hid (by rw [← hgc.out, Nat.gcd_zero_right])
      have T := Lib.hid (rtrim_n _ x wr hx (Nat.le_trans hxl.out (by omega)))
      have hzz : (bitsN 0).length = 0 := rfl
      clear hx hy h0
      go_wp2_with (go_at_call 53; ((with_reducible refine T.out.mono ?_); rintro e w4 ⟨v4, rfl, hv4, hb4⟩))
      go_ret
      exact ⟨_, rfl, by rw [← HX.out]; exact hv4, bel2' hbel hb4⟩

end Go.Proofs.Ytlhkjkhbgebgiaa
