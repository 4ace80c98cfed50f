import Derived.Test.YtcbocdkpdedogaaDoorGE
namespace Go.Proofs.YtcbocdkpdedogaaDoor
open Go.RowKit Go.Proofs.Kit Go.Proofs.Nums

theorem bval_drop_le (l : List Bool) (k : Nat) : bval (l.drop k) ≤ bval l := by
  rw [bval_take_drop l k]
  have : 1 * bval (l.drop k) ≤ 2 ^ (l.take k).length * bval (l.drop k) := Nat.mul_le_mul_right _ (Nat.pow_pos (by omega))
  omega

theorem dec_len_le (n k : Nat) (h : n < 10 ^ k) : (decL n).length ≤ k := by
  induction k generalizing n with
  | zero => have : n = 0 := by simpa using h
            subst this; exact Nat.le_refl _
  | succ k ih =>
    by_cases h0 : n = 0
    · subst h0; simp [decL_zero]
    · rw [decL_pos n h0, List.length_cons]
      have := ih (n / 10) (by rw [Nat.pow_succ] at h; omega)
      omega

theorem dec_len_bits (n : Nat) : (decL n).length ≤ (bitsN n).length := by
  refine dec_len_le n _ (Nat.lt_of_lt_of_le (bits_lt_pow n) (Nat.pow_le_pow_left (by omega) _))

theorem str_data {a : Array UInt8} {s : ByteArray} (h : s.data.toList = a.toList) : s = ⟨a⟩ := by
  cases s; simp at h; simp [h]

set_option maxRecDepth 100000 in
set_option maxHeartbeats 2000000 in
theorem digits_n (v : Value) (n : Nat) (w : World) (ha : BitAt w v (bitsN n)) (h1 : (bitsN n).length ≤ 40000) :
    Calls Tryd.prog 57 #[v] w fun e w' => e = .returned (.string ⟨(decB n).toArray⟩) ∧ Below w.heap.size w w' := by
  obtain ⟨p1, c1, rfl⟩ := ha.shape
  by_cases h0 : n = 0
  · subst h0
    have hzz : (bitsN 0).length = 0 := rfl
    clear ha h1
    go_enter Tryd.func57, Tryd.ntmps57
    go_wp2_with fail
    go_ret
    exact ⟨rfl, Below.refl _ _⟩
  · have hpos := bits_len_pos (Nat.pos_of_ne_zero h0)
    have hzz : (((bitsN n).length : Int) == 0) = false := by rw [beq_eq_false_iff_ne]; omega
    have HD := Lib.hid (dec_len_bits n)
    have HN0 := Lib.hid h0
    have HL := Lib.hid h1
    clear h0
    go_enter Tryd.func57, Tryd.ntmps57
    go_wp2_with fail
    go_loopw [0, 3] (fun av sv wr => ∃ m : Nat, ∃ ds : List Nat, ∃ S : ByteArray, BitAt wr av (bitsN m) ∧ sv = .string S ∧ S.size ≤ 40000 ∧ Hid (S.data.toList = (ds.map digB).reverse) ∧ Hid (decL n = ds ++ decL m) ∧ Hid ((bitsN m).length ≤ 40000) ∧ Below w.heap.size w wr) (fun av _ wr => bitNum wr av)
    case atStart => exact ⟨n, [], ByteArray.empty, ha, rfl, by decide, Lib.hid rfl, Lib.hid rfl, HL, Below.refl _ _⟩
    case round =>
      obtain ⟨m, ds, S, hm, rfl, hS, hSD, hD, hML, hbel⟩ := hrel
      obtain ⟨p2, c2, rfl⟩ := hm.shape
      by_cases h0 : 0 < m
      · have hmpos := bits_len_pos h0
        have HM := Lib.hid (bitNum_eq hm)
        have HLT := Lib.hid (Nat.div_lt_self h0 (show 1 < 10 by omega))
        have HNL : Hid ((bitsN (m / 10)).length ≤ 40000) := Lib.hid (Nat.le_trans (bits_len_mono (Nat.div_le_self m 10)) hML.out)
        have SM : Hid (∀ w, Calls Tryd.prog 58 #[.int .i64 10] w fun e w' => ∃ v', e = .returned v' ∧ BitAt w' v' (bitsN 10) ∧ Below w.heap.size w w') := Lib.hid (fun w => small_any 10 w (by omega))
        have DV : Hid (∀ va vb w, BitAt w va (bitsN m) → BitAt w vb (bitsN 10) → Calls Tryd.prog 30 #[va, vb] w fun e w' => ∃ vq vr, e = .returned (.tuple #[vq, vr]) ∧ BitAt w' vq (bitsN (m / 10)) ∧ BitAt w' vr (bitsN (m % 10)) ∧ Below w.heap.size w w') :=
          Lib.hid (fun va vb w h h' => rdiv_n va vb m 10 w h h' hML.out (by decide) (by omega))
        have HDS : Hid (decL n = (ds ++ [m % 10]) ++ decL (m / 10)) := Lib.hid (by rw [hD.out, decL_pos m (by omega), List.append_assoc]; rfl)
        have hlen : Hid (S.size + 1 ≤ 40000) := Lib.hid (by
          have e1 := congrArg List.length HDS.out
          have e2 := congrArg List.length hSD.out
          rw [Lib.size_eq]
          simp at e1 e2 ⊢
          have := HD.out
          omega)
        have HR9 : Hid (m % 10 < 10) := Lib.hid (Nat.mod_lt _ (by omega))
        obtain ⟨r, hr⟩ : ∃ r, m % 10 = r := ⟨_, rfl⟩
        rw [hr] at DV HDS HR9
        have hrl : (bitsN r).length ≤ 4 := bits_len_le r 4 (by have := HR9.out; omega)
        have HB := Lib.hid hm
        clear h0 hm hr
        go_wp2_with (first
          | (go_at_call 58; ((with_reducible refine (SM.out _).mono ?_); rintro e w4 ⟨v4, rfl, hv4, hb4⟩))
          | (go_at_call 30; ((with_reducible refine (DV.out _ _ _ (HB.out.keep hb4) hv4).mono ?_); rintro e w5 ⟨vq, vr, rfl, hvq, hvr, hb5⟩; obtain ⟨p3, c3, rfl⟩ := hvr.shape; have hb5' := bel2' hb4 hb5)))
        obtain ⟨rb, hrb⟩ : ∃ rb, bitsN r = rb := ⟨_, rfl⟩
        have HRB : Hid (bval rb = r) := Lib.hid (by rw [← hrb, bval_bits])
        rw [hrb] at hvr hrl ⊢
        have HVR := Lib.hid hvr
        have HVQ := Lib.hid hvq
        clear hvr hvq hv4 hrb
        go_loop [6, 7] (fun dv iv => ∃ k d : Nat, k ≤ rb.length ∧ iv = .int .i64 ((k : Int) - 1) ∧ dv = .int .i64 d ∧ d < 10 ∧ Hid (d = bval (rb.drop k))) (fun _ iv => (intOf iv + 1).toNat)
        case atStart => exact ⟨rb.length, 0, by omega, by go_num, rfl, by omega, Lib.hid (by rw [List.drop_length]; rfl)⟩
        case round =>
          obtain ⟨k, d, hk, rfl, rfl, hd, hP⟩ := hrel
          by_cases hk0 : 0 < k
          · obtain ⟨j, rfl⟩ : ∃ j, k = j + 1 := ⟨k - 1, by omega⟩
            rw [show ((j + 1 : Nat) : Int) - 1 = (j : Int) by omega]
            rcases HVR.out.cases with ⟨hx0, _⟩ | ⟨_, b1, o1, k1, hv1, hk1, hm1, hb1, hcell1⟩
            · rw [hx0] at hk; simp at hk
            simp only [Value.slice.injEq] at hv1
            obtain ⟨rfl, _, rfl⟩ := hv1
            have q1 := hcell1 j (by omega)
            clear hcell1
            have hst := bval_drop rb j (by omega)
            have hle := bval_drop_le rb j
            have hpo := hP.out
            have h9 := HR9.out
            have hrb := HRB.out
            cases hbit : bnth rb j
            · rw [hbit] at q1 hst
              have HN : Hid (2 * d = bval (rb.drop j)) := Lib.hid (by rw [hst, hpo]; simp [bN])
              have hd2 : 2 * d < 10 := by have := HN.out; omega
              clear hst hle hpo h9 hrb
              go_wp2_with fail
              go_round
              case rel => exact ⟨j, 2 * d, by omega, by go_num, by go_num, by omega, HN⟩
              case measure => simp [intOf] <;> omega
            · rw [hbit] at q1 hst
              have HN : Hid (2 * d + 1 = bval (rb.drop j)) := Lib.hid (by rw [hst, hpo]; simp [bN]; omega)
              have hd2 : 2 * d + 1 < 10 := by have := HN.out; omega
              clear hst hle hpo h9 hrb
              go_wp2_with fail
              go_round
              case rel => exact ⟨j, 2 * d + 1, by omega, by go_num, by go_num, by omega, HN⟩
              case measure => simp [intOf] <;> omega
          · obtain rfl : k = 0 := by omega
            have hdr : Hid (d = r) := Lib.hid (by rw [hP.out, List.drop_zero, HRB.out])
            have hdv : Value.int .u8 (48 + (d : Int)) = byteV (digB d) := by
              unfold byteV
              rw [digB_nat hd]
              congr 1
            have hown : (w5.alloc (.cells #[.int .u8 (48 + (d : Int))] 5)).ownsRow w5.heap.size 5 1 (.slice (some ⟨w5.heap.size, 0, none⟩) 1 1) 1 ([digB d].map byteV) := by
              rw [hdv]
              exact World.ownsRow_lit w5 #[byteV (digB d)] 1 (Nat.le_refl _) (by unfold maxLen; omega) rfl
            have hconv := string_of_owned 96 9 Tryd.underlying96 Tryd.underlying5 Tryd.underlying9 (P := Tryd.prog) hown
            have hsz : ((⟨[digB d].toArray⟩ : ByteArray).size) = 1 := rfl
            have hlen' := hlen.out
            clear hown hdv hk0
            go_wp2_with fail
            go_roundw
            case rel =>
              refine ⟨m / 10, ds ++ [r], (⟨[digB d].toArray⟩ : ByteArray) ++ S, ?_, rfl, ?_, Lib.hid ?_, HDS, HNL, ?_⟩
              · exact HVQ.out.alloc _
              · rw [ByteArray.size_append, hsz]; omega
              · rw [hdr.out]
                simp [ByteArray.data_append, hSD.out]
              · exact (bel2' hbel hb5').alloc (bel2' hbel hb5').size _
            case measure => rw [HM.out]; rw [bitNum_eq (HVQ.out.alloc _)]; exact HLT.out
      · obtain rfl : m = 0 := by omega
        have hz0 : (bitsN 0).length = 0 := rfl
        have HE : Hid (S = ⟨(decB n).toArray⟩) := Lib.hid (str_data (by
          rw [hSD.out]
          unfold decB
          rw [if_neg HN0.out, hD.out, decL_zero, List.append_nil]))
        clear hm h0
        go_wp2_with fail
        go_ret
        exact ⟨ret_val (congrArg Value.string HE.out), hbel⟩

end Go.Proofs.YtcbocdkpdedogaaDoor
