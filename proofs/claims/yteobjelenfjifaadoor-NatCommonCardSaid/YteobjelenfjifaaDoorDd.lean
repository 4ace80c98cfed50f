import Derived.Test.YteobjelenfjifaaDoorDc
namespace Go.Proofs.YteobjelenfjifaaDoor
open Go.RowKit Go.Proofs.Kit Go.Proofs.Nums

theorem lit_bit (w : World) (x : Bool) : (w.alloc (.cells #[.bool x] 4)).ownsRow w.heap.size 4 1 (.slice (some ⟨w.heap.size, 0, none⟩) 1 1) 1 [.bool x] :=
  World.ownsRow_lit w #[.bool x] 1 (Nat.le_refl _) (by unfold maxLen; omega) rfl

set_option maxHeartbeats 4000000 in
theorem rdiv_n (va vb : Value) (n m : Nat) (w : World) (ha : BitAt w va (bitsN n)) (hb : BitAt w vb (bitsN m)) (h1 : (bitsN n).length ≤ 40000) (h2 : (bitsN m).length ≤ 40000) (hm : 0 < m) :
    Calls Tryd.prog 36 #[va, vb] w fun e w' => ∃ vq vr, e = .returned (.tuple #[vq, vr]) ∧ BitAt w' vq (bitsN (n / m)) ∧ BitAt w' vr (bitsN (n % m)) ∧ Below w.heap.size w w' := by
  obtain ⟨a, hA⟩ : ∃ a, bitsN n = a := ⟨_, rfl⟩
  have hN : Hid (bval a = n) := Lib.hid (by rw [← hA, bval_bits])
  rw [hA] at ha h1
  have H2 := Lib.hid h2
  have HM := Lib.hid hm
  have HST := Lib.hid (BDiv.start a m hm)
  clear hA h2 hm
  obtain ⟨p1, c1, rfl⟩ := ha.shape
  have HA := Lib.hid ha
  have HB := Lib.hid hb
  clear ha hb
  go_enter Tryd.func36, Tryd.ntmps36
  go_wp2_with (at_make; go_must (refine make_any er30 rfl rfl rfl rfl (by omega) (by omega) (by omega) ?_); intro w3 hown3 hb3)
  have hown := OwnBits.made hown3
  clear hown3
  go_loopw [7, 8] (fun rv i wr => ∃ k R : Nat, ∃ q : List Bool, k ≤ a.length ∧ i = .int .i64 ((k : Int) - 1) ∧ Hid (BDiv a q m R k) ∧ OwnBits wr w.heap.size w.heap.size a.length a.length q ∧ BitAt wr rv (bitsN R) ∧ Fresh (w.heap.size + 1) rv ∧ Below w.heap.size w wr) (fun _ i _ => (intOf i + 1).toNat)
  case atStart => exact ⟨a.length, 0, _, by omega, by go_num, HST, hown, BitAt.nil _, Fresh.nil _, hb3⟩
  case round =>
    obtain ⟨k, R, q, hk, rfl, hP, hO, hR, hF, hbel⟩ := hrel
    by_cases h0 : 0 < k
    · obtain ⟨j, rfl⟩ : ∃ j, k = j + 1 := ⟨k - 1, by omega⟩
      rw [show ((j + 1 : Nat) : Int) - 1 = (j : Int) by omega]
      rcases (HA.out.keep hbel).cases with ⟨hx0, _⟩ | ⟨_, b1, o1, k1, hv1, hk1, hm1, hb1, hcell1⟩
      · rw [hx0] at hk; simp at hk
      simp only [Value.slice.injEq] at hv1
      obtain ⟨rfl, _, rfl⟩ := hv1
      have q1 := hcell1 j (by omega)
      clear hcell1
      obtain ⟨bj, hbj⟩ : ∃ bj, bnth a j = bj := ⟨_, rfl⟩
      rw [hbj] at q1
      have HBJ := Lib.hid hbj
      have HRA : Hid (RowAt (wr.alloc (.cells #[.bool bj] 4)) u7 ((bitsN R).map Value.bool)) := Lib.hid (RowAt.alloc hR _)
      have hX := bits_len2 hP.out.2.2.1 (bN_le bj) H2.out
      obtain ⟨X, hXX⟩ : ∃ X, bN bj + 2 * R = X := ⟨_, rfl⟩
      have hRL := bits_len_mono (show R ≤ X by omega)
      rw [hXX] at hX
      have HX := Lib.hid hX
      have HRL : Hid ((bitsN R).length ≤ 40001) := Lib.hid (by omega)
      have TRIM : Hid (∀ v w, BitAt w v (bj :: bitsN R) → Calls Tryd.prog 41 #[v] w fun e w' => ∃ v', e = .returned v' ∧ BitAt w' v' (bitsN X) ∧ Fresh w.heap.size v' ∧ Below w.heap.size w w') := Lib.hid (fun v w h => by
        have := rtrim_own v _ w h (by rw [List.length_cons]; have := HRL.out; omega)
        rw [bval, bval_bits, hXX] at this; exact this)
      have HOw := Lib.hid hO
      have OLT := hO.lt
      have HXX := Lib.hid hXX
      clear hR hO hbj hX hXX hRL
      by_cases hlt : X < m
      · have CMP : Hid (∀ v w, BitAt w v (bitsN X) → BitAt w vb (bitsN m) → Calls Tryd.prog 22 #[v, vb] w fun e w' => e = .returned (.int .i64 (-1)) ∧ Below w.heap.size w w') := Lib.hid (fun v w h h' => by
          have := rcmp_n v vb X m w h h' (Nat.le_trans HX.out (by omega)) (Nat.le_trans H2.out (by omega))
          rw [cmpN_lt hlt] at this; exact this)
        have HN : Hid (BDiv a q m X j) := Lib.hid (by have := BDiv.less hP.out (by omega) (by rw [HBJ.out, HXX.out]; exact hlt); rw [HBJ.out, HXX.out] at this; exact this)
        clear hlt
        go_wp2_with (first
          | (at_builtin; go_must (refine append_read er30 (by rfl) (by rfl) (lit_bit wr bj) (by rfl) HRA.out (by rfl) (bool_one _) (by rw [List.length_map]; have := HRL.out; omega) (by rw [List.length_map]; have := HRL.out; omega) (by simp) ?_); intro v' w1 hown1 hb1; have hv1 : BitAt w1 v' (bj :: bitsN R) := RowAt.owned hown1; clear hown1; have hb1' := below_new hb1)
          | (go_at_call 41; ((with_reducible refine (TRIM.out _ _ hv1).mono ?_); rintro e w4 ⟨v4, rfl, hv4, hf4, hb4⟩; have hb4' := bel2' hb1' hb4; have hb4'' := bel2' hbel hb4'))
          | (go_at_call 22; ((with_reducible refine (CMP.out _ _ hv4 (HB.out.keep hb4'')).mono ?_); rintro e w5 ⟨rfl, hb5⟩; have hb5' := bel2' hb4' hb5; have hb5'' := bel2' hb4'' hb5)))
        go_roundw
        case rel =>
          exact ⟨j, X, q, by omega, by go_num, HN, HOw.out.keep hb5', hv4.keep hb5, hf4.mono (by have := hb1'.size; omega), hb5''⟩
        case measure => simp [intOf] <;> omega
      · obtain ⟨c, hc⟩ : ∃ c, cmpN X m = c := ⟨_, rfl⟩
        have hc0 : 0 ≤ c := by rw [← hc]; unfold cmpN; rw [if_neg hlt]; split <;> omega
        have CMP : Hid (∀ v w, BitAt w v (bitsN X) → BitAt w vb (bitsN m) → Calls Tryd.prog 22 #[v, vb] w fun e w' => e = .returned (.int .i64 c) ∧ Below w.heap.size w w') := Lib.hid (fun v w h h' => by
          have := rcmp_n v vb X m w h h' (Nat.le_trans HX.out (by omega)) (Nat.le_trans H2.out (by omega))
          rw [hc] at this; exact this)
        have SUB : Hid (∀ v w, BitAt w v (bitsN X) → BitAt w vb (bitsN m) → Calls Tryd.prog 24 #[v, vb] w fun e w' => ∃ v', e = .returned v' ∧ BitAt w' v' (bitsN (X - m)) ∧ Fresh w.heap.size v' ∧ Below w.heap.size w w') := Lib.hid (fun v w h h' =>
          rsub_own v vb X m w h h' (Nat.le_trans HX.out (by omega)) (by omega))
        have HN : Hid (BDiv a (q.set j true) m (X - m) j) := Lib.hid (by have := BDiv.more hP.out (by omega) (by rw [HBJ.out, HXX.out]; omega); rw [HBJ.out, HXX.out] at this; exact this)
        clear hlt hc
        go_wp2_with (first
          | (at_builtin; go_must (refine append_read er30 (by rfl) (by rfl) (lit_bit wr bj) (by rfl) HRA.out (by rfl) (bool_one _) (by rw [List.length_map]; have := HRL.out; omega) (by rw [List.length_map]; have := HRL.out; omega) (by simp) ?_); intro v' w1 hown1 hb1; have hv1 : BitAt w1 v' (bj :: bitsN R) := RowAt.owned hown1; clear hown1; have hb1' := below_new hb1)
          | (go_at_call 41; ((with_reducible refine (TRIM.out _ _ hv1).mono ?_); rintro e w4 ⟨v4, rfl, hv4, hf4, hb4⟩; have hb4' := bel2' hb1' hb4; have hb4'' := bel2' hbel hb4'))
          | (go_at_call 22; ((with_reducible refine (CMP.out _ _ hv4 (HB.out.keep hb4'')).mono ?_); rintro e w5 ⟨rfl, hb5⟩; have hb5' := bel2' hb4' hb5; have hb5'' := bel2' hb4'' hb5))
          | (go_at_call 24; ((with_reducible refine (SUB.out _ _ (hv4.keep hb5) (HB.out.keep hb5'')).mono ?_); rintro e w6 ⟨v6, rfl, hv6, hf6, hb6⟩; have hb6' := bel2' hb5' hb6; have hb6'' := bel2' hb5'' hb6; have hO6 := HOw.out.keep hb6'; have hcl := hO6.cell (j := j) (by omega); have hfr := hO6.free j; have hput := hO6.put j true; have hf6' : Fresh (w.heap.size + 1) v6 := hf6.mono (by have := hb5'.size; omega); have hr6 : BitAt (w6.setCell ⟨w.heap.size, j, none⟩ (.bool true)) v6 (bitsN (X - m)) := BitAt.put hv6 hf6'; have HO6 := Lib.hid hO6; have HPUT := Lib.hid hput; clear hO6 hput)))
        go_roundw
        case rel =>
          exact ⟨j, X - m, q.set j true, by omega, by go_num, HN, HPUT.out.1, hr6, hf6', hb6''.trans HPUT.out.2⟩
        case measure => simp [intOf] <;> omega
    · obtain rfl : k = 0 := by omega
      have hD : Hid (bval q = n / m ∧ R = n % m) := Lib.hid (by have := BDiv.done hP.out; rw [hN.out] at this; exact this)
      have HQ := Lib.hid hO.read
      have HR := Lib.hid hR
      have HQL : Hid (q.length ≤ 1000000) := Lib.hid (by rw [hO.1]; omega)
      clear hO hR
      go_wp2_with (go_at_call 41; refine (rtrim_any _ _ _ HQ.out HQL.out).mono ?_; rw [hD.out.1]; rintro e w4 ⟨v4, rfl, hv4, hb4⟩)
      go_ret2
      exact ⟨_, _, rfl, hv4, by rw [← hD.out.2]; exact HR.out.keep hb4, bel2' hbel hb4⟩

end Go.Proofs.YteobjelenfjifaaDoor
