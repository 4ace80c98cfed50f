import Derived.Test.YtlhkjkhbgebgiaaGG
import Derived.Test.YtlhkjkhbgebgiaaR1
namespace Go.Proofs.Ytlhkjkhbgebgiaa
open Go.RowKit Go.Proofs.Kit Go.Proofs.Nums

theorem bits_zero_n {va : Value} {L : Nat} {w : World} (ha : Num w va 0 L) (hL : L ≤ 1000000) :
    Calls Try.prog 56 #[va] w fun e w' => e = .returned (.int .i64 0) ∧ Below w.heap.size w w' := bits_num ha hL
theorem bits_pos_n {va : Value} {n L : Nat} {w : World} (ha : Num w va n L) (hL : L ≤ 1000000) (hn : 0 < n) :
    Calls Try.prog 56 #[va] w fun e w' => ∃ k : Nat, e = .returned (.int .i64 k) ∧ ((k : Int) == 0) = false ∧ Below w.heap.size w w' :=
  (bits_num ha hL).mono fun e w' ⟨h1, h2⟩ => ⟨_, h1, by rw [beq_eq_false_iff_ne]; have := bits_len_pos hn; omega, h2⟩

theorem div_gcd {n d L : Nat} {va vg : Value} {w : World} (ha : Num w va n L) (hg : Num w vg d L) (hL : L ≤ 900000) (hd : 0 < d) :
    Calls Try.prog 59 #[va, vg] w fun e w' => ∃ vq vr, e = .returned (.tuple #[vq, vr, .bool true]) ∧ Nrm w' vq (n / d) L ∧ Below w.heap.size w w' :=
  (div_num ha hg hL hL hd).mono fun _ _ ⟨vq, vr, h1, h2, _, h4⟩ => ⟨vq, vr, h1, h2, h4⟩

/-- A struct of three cells is stored in a block of the call's own, and handed back. -/
theorem ret3 {W w1 : World} {L : Nat} {T : TypeId} {q : Q} {vn vd : Value} {B : Nat} (hb : Below (W.alloc (.cells #[.bool false, .slice none 0 0, .slice none 0 0] T)).heap.size (W.alloc (.cells #[.bool false, .slice none 0 0, .slice none 0 0] T)) w1)
    (hB : B ≤ W.heap.size) {w0 : World} (hw : Below B w0 W) (hn : Nrm w1 vn q.n L) (hd : Nrm w1 vd q.d L) (b : Nat) (hbb : b = W.heap.size) :
    RatN (((w1.setCell ⟨b, 0, none⟩ (.bool q.neg)).setCell ⟨b, 1, none⟩ vn).setCell ⟨b, 2, none⟩ vd) (.agg #[.bool q.neg, vn, vd]) q L ∧
    Below B w0 (((w1.setCell ⟨b, 0, none⟩ (.bool q.neg)).setCell ⟨b, 1, none⟩ vn).setCell ⟨b, 2, none⟩ vd) := by
  subst hbb
  have HN := noLimb_new hb (noLimb3 (by simp) (by simp) (by simp))
  refine ⟨⟨_, _, rfl, hn.off (heap_set3 _ _ _ _ _) HN, hd.off (heap_set3 _ _ _ _ _) HN⟩, below_set3 ?_ hB _ _ _⟩
  exact (hw.alloc hB _).trans (hb.mono (by simp; omega))

set_option maxHeartbeats 2000000 in
theorem make_num {neg : Bool} {vn vd : Value} {n d L : Nat} {w : World} (hn : Num w vn n L) (hd : Num w vd d L) (hL : L ≤ 900000) (hL2 : 2 ≤ L) :
    Calls Try.prog 42 #[.bool neg, vn, vd] w fun e w' => ∃ v, e = .returned v ∧ RatN w' v (Q.mk' neg n d) L ∧ Below w.heap.size w w' := by
  have Z : Hid (∀ w, Calls Try.prog 57 #[] w fun e w' => ∃ v, e = .returned v ∧ RatN w' v ⟨false, 0, 1⟩ L ∧ Below w.heap.size w w') := Lib.hid (fun w => zero_any w L hL2)
  have ka : ∀ {o : Obj} {v : Value} {n : Nat}, Num w v n L → Num (w.alloc o) v n L := fun h => h.keep ((Below.refl _ _).alloc (Nat.le_refl _) _)
  have hn' := fun o => ka (o := o) hn
  have hd' := fun o => ka (o := o) hd
  have HN := Lib.hid hn'
  have HD := Lib.hid hd'
  clear hn hd hn' hd' ka
  rcases Nat.eq_zero_or_pos n with h0 | h0
  · subst h0
    rw [Q.mk'_zero (.inl rfl)]
    go_enter Try.func42, Try.ntmps42
    go_wp2_with (first
      | (go_at_call 56; ((with_reducible refine (bits_zero_n (HN.out _) (by omega)).mono ?_); rintro e w1 ⟨rfl, hb1⟩))
      | (go_at_call 57; ((with_reducible refine (Z.out _).mono ?_); rintro e w2 ⟨v2, rfl, hv2, hb2⟩; obtain ⟨vn', vd', rfl, hvn, hvd⟩ := hv2; obtain ⟨p1, l1, k1, rfl⟩ := hvn.shape; obtain ⟨p2, l2, k2, rfl⟩ := hvd.shape; have hb2' := bel2' hb1 hb2; have c0 := new_cell hb2' 0; have c1 := new_cell hb2' 1; have c2 := new_cell hb2' 2; have f0 := new_free hb2' 0; have f1 := new_free hb2' 1; have f2 := new_free hb2' 2; simp at c0 c1 c2)))
    refine bodyPost_ret (v := .agg #[.bool false, .slice p1 l1 k1, .slice p2 l2 k2]) (by simp [results, Try.results42, go_sem, c0, c1, c2]) rfl ?_
    exact ⟨_, rfl, ret3 (q := ⟨false, 0, 1⟩) hb2' (Nat.le_refl _) (Below.refl _ _) hvn hvd _ rfl⟩
  · rcases Nat.eq_zero_or_pos d with h1 | h1
    · subst h1
      rw [Q.mk'_zero (.inr rfl)]
      have HP := Lib.hid h0
      clear h0
      go_enter Try.func42, Try.ntmps42
      go_wp2_with (first
        | (go_at_call 56; ((with_reducible refine (bits_pos_n (HN.out _) (by omega) HP.out).mono ?_); rintro e w1 ⟨kk, rfl, hkk, hb1⟩; have hd1 := (HD.out _).keep hb1))
        | (go_at_call 56; ((with_reducible refine (bits_zero_n hd1 (by omega)).mono ?_); rintro e w2 ⟨rfl, hb2⟩; have hb2' := bel2' hb1 hb2))
        | (go_at_call 57; ((with_reducible refine (Z.out _).mono ?_); rintro e w3 ⟨v2, rfl, hv2, hb3⟩; obtain ⟨vn', vd', rfl, hvn, hvd⟩ := hv2; obtain ⟨p1, l1, k1, rfl⟩ := hvn.shape; obtain ⟨p2, l2, k2, rfl⟩ := hvd.shape; have hb3' := bel2' hb2' hb3; have c0 := new_cell hb3' 0; have c1 := new_cell hb3' 1; have c2 := new_cell hb3' 2; have f0 := new_free hb3' 0; have f1 := new_free hb3' 1; have f2 := new_free hb3' 2; simp at c0 c1 c2)))
      refine bodyPost_ret (v := .agg #[.bool false, .slice p1 l1 k1, .slice p2 l2 k2]) (by simp [results, Try.results42, go_sem, c0, c1, c2]) rfl ?_
      exact ⟨_, rfl, ret3 (q := ⟨false, 0, 1⟩) hb3' (Nat.le_refl _) (Below.refl _ _) hvn hvd _ rfl⟩
    · rw [Q.mk'_pos h0 h1]
      have HP := Lib.hid h0
      have HP1 := Lib.hid h1
      have HG := Lib.hid (Nat.gcd_pos_of_pos_left d h0)
      clear h0 h1
      obtain ⟨g, hg⟩ : ∃ g, Nat.gcd n d = g := ⟨_, rfl⟩
      have GC : Hid (∀ va vb w, Num w va n L → Num w vb d L → Calls Try.prog 58 #[va, vb] w fun e w' => ∃ v', e = .returned v' ∧ Nrm w' v' g L ∧ Below w.heap.size w w') := Lib.hid (fun va vb w h h' => by have := gcd_num h h' hL; rw [hg] at this; exact this)
      rw [hg] at HG ⊢
      clear hg
      go_enter Try.func42, Try.ntmps42
      go_wp2_with (first
        | (go_at_call 56; ((with_reducible refine (bits_pos_n (HN.out _) (by omega) HP.out).mono ?_); rintro e w1 ⟨kk, rfl, hkk, hb1⟩; have hd1 := (HD.out _).keep hb1; have hn1 := (HN.out _).keep hb1))
        | (go_at_call 56; ((with_reducible refine (bits_pos_n hd1 (by omega) HP1.out).mono ?_); rintro e w2 ⟨kd, rfl, hkd, hb2⟩; have hb2' := bel2' hb1 hb2; have hd2 := hd1.keep hb2; have hn2 := hn1.keep hb2; clear hd1 hn1))
        | (go_at_call 58; ((with_reducible refine (GC.out _ _ _ hn2 hd2).mono ?_); rintro e w3 ⟨v3, rfl, hg3, hb3⟩; have hb3' := bel2' hb2' hb3; have hd3 := hd2.keep hb3; have hn3 := hn2.keep hb3; clear hd2 hn2))
        | (go_at_call 59; ((with_reducible refine (div_gcd hn3 hg3.num hL HG.out).mono ?_); rintro e w4 ⟨vq4, vr4, rfl, hq4, hb4⟩; have hb4' := bel2' hb3' hb4; have hd4 := hd3.keep hb4; have hg4 := hg3.keep hb4; clear hn3 hd3 hg3))
        | (go_at_call 59; ((with_reducible refine (div_gcd hd4 hg4.num hL HG.out).mono ?_); rintro e w5 ⟨vq5, vr5, rfl, hq5, hb5⟩; have hb5' := bel2' hb4' hb5; have hq4b := hq4.keep hb5; obtain ⟨p1, l1, k1, rfl⟩ := hq4b.shape; obtain ⟨p2, l2, k2, rfl⟩ := hq5.shape; have c0 := new_cell hb5' 0; have c1 := new_cell hb5' 1; have c2 := new_cell hb5' 2; have f0 := new_free hb5' 0; have f1 := new_free hb5' 1; have f2 := new_free hb5' 2; simp at c0 c1 c2)))
      refine bodyPost_ret (v := .agg #[.bool neg, .slice p1 l1 k1, .slice p2 l2 k2]) (by simp [results, Try.results42, go_sem, c0, c1, c2]) rfl ?_
      exact ⟨_, rfl, ret3 (q := ⟨neg, n / g, d / g⟩) hb5' (Nat.le_refl _) (Below.refl _ _) hq4b hq5 _ rfl⟩

end Go.Proofs.Ytlhkjkhbgebgiaa

namespace Go.Proofs.Ytlhkjkhbgebgiaa
open Go.RowKit Go.Proofs.Kit Go.Proofs.Nums

theorem RatAt.shape {w : World} {v : Value} {q : Q} {L : Nat} (h : RatAt w v q L) : ∃ p1 l1 k1 p2 l2 k2, v = .agg #[.bool q.neg, .slice p1 l1 k1, .slice p2 l2 k2] ∧ Num w (.slice p1 l1 k1) q.n L ∧ Num w (.slice p2 l2 k2) q.d L := by
  obtain ⟨vn, vd, rfl, h1, h2⟩ := h
  obtain ⟨p1, l1, k1, rfl⟩ := h1.shape
  obtain ⟨p2, l2, k2, rfl⟩ := h2.shape
  exact ⟨_, _, _, _, _, _, rfl, h1, h2⟩
theorem RatN.shape {w : World} {v : Value} {q : Q} {L : Nat} (h : RatN w v q L) : ∃ p1 l1 k1 p2 l2 k2, v = .agg #[.bool q.neg, .slice p1 l1 k1, .slice p2 l2 k2] ∧ Nrm w (.slice p1 l1 k1) q.n L ∧ Nrm w (.slice p2 l2 k2) q.d L := by
  obtain ⟨vn, vd, rfl, h1, h2⟩ := h
  obtain ⟨p1, l1, k1, rfl⟩ := h1.shape
  obtain ⟨p2, l2, k2, rfl⟩ := h2.shape
  exact ⟨_, _, _, _, _, _, rfl, h1, h2⟩

theorem Num.alloc {w : World} {v : Value} {n L : Nat} (h : Num w v n L) (o : Obj) : Num (w.alloc o) v n L := h.keep ((Below.refl _ _).alloc (Nat.le_refl _) _)

set_option maxHeartbeats 1000000 in
theorem norm_r {v : Value} {q : Q} {L : Nat} {w : World} (h : RatAt w v q L) (hL : L ≤ 900000) (hL2 : 2 ≤ L) :
    Calls Try.prog 39 #[v] w fun e w' => ∃ v', e = .returned v' ∧ RatN w' v' q.norm L ∧ Below w.heap.size w w' := by
  obtain ⟨p1, l1, k1, p2, l2, k2, rfl, hn, hd⟩ := h.shape
  obtain ⟨neg, n, d⟩ := q
  have M : Hid (∀ o1 o2, Calls Try.prog 42 #[.bool neg, .slice p1 l1 k1, .slice p2 l2 k2] ((w.alloc o1).alloc o2) fun e w' => ∃ v, e = .returned v ∧ RatN w' v (Q.mk' neg n d) L ∧ Below ((w.alloc o1).alloc o2).heap.size ((w.alloc o1).alloc o2) w') := Lib.hid (fun o1 o2 => make_num ((hn.alloc o1).alloc o2) ((hd.alloc o1).alloc o2) hL hL2)
  clear hn hd h
  go_enter Try.func39, Try.ntmps39
  go_wp2_with (go_at_call 42; ((with_reducible refine (M.out _ _).mono ?_); rintro e w1 ⟨v1, rfl, hv1, hb1⟩; obtain ⟨a1, b1, e1, a2, b2, e2, rfl, hvn, hvd⟩ := hv1.shape; have c0 := new_cell hb1 0; have c1 := new_cell hb1 1; have c2 := new_cell hb1 2; have f0 := new_free hb1 0; have f1 := new_free hb1 1; have f2 := new_free hb1 2; simp at c0 c1 c2 f0 f1 f2))
  refine bodyPost_ret (v := .agg #[.bool (Q.mk' neg n d).neg, .slice a1 b1 e1, .slice a2 b2 e2]) (by simp [results, Try.results39, go_sem, c0, c1, c2]) rfl ?_
  exact ⟨_, rfl, ret3 hb1 (by simp) ((Below.refl _ _).alloc (Nat.le_refl _) _) hvn hvd _ (by simp)⟩

theorem nrm_ofz {n L : Nat} {z : Int} {w : World} (hz : z = (n : Int)) (hn : n < 18446744073709551616) (hL : 2 ≤ L) :
    Calls Try.prog 31 #[.int .u64 z] w fun e w' => ∃ v', e = .returned v' ∧ Nrm w' v' n L ∧ Below w.heap.size w w' := by
  subst hz; exact nrm_of hn hL

set_option maxHeartbeats 1000000 in
theorem size_z {z : Int} {L : Nat} {w : World} (h1 : -9223372036854775808 ≤ z) (h2 : z ≤ 9223372036854775807) (hL : 2 ≤ L) :
    Calls Try.prog 43 #[.int .i64 z] w fun e w' => ∃ v', e = .returned v' ∧ Nrm w' v' z.natAbs L ∧ Below w.heap.size w w' := by
  obtain ⟨n, hn⟩ : ∃ n, z.natAbs = n := ⟨_, rfl⟩
  rw [hn]
  have HN := Lib.hid hn
  by_cases h : z < 0
  · clear hn
    go_enter Try.func43, Try.ntmps43
    go_wp2_with (go_at_call 31; ((refine (nrm_ofz (n := n) (by rw [IntKind.wrap_u64, IntKind.wrap_u64]; have := HN.out; omega) (by have := HN.out; omega) hL).mono ?_); rintro e w1 ⟨v1, rfl, hv1, hb1⟩))
    go_ret
    exact ⟨_, rfl, hv1, hb1⟩
  · clear hn
    go_enter Try.func43, Try.ntmps43
    go_wp2_with (go_at_call 31; ((refine (nrm_ofz (n := n) (by have := HN.out; omega) (by have := HN.out; omega) hL).mono ?_); rintro e w1 ⟨v1, rfl, hv1, hb1⟩))
    go_ret
    exact ⟨_, rfl, hv1, hb1⟩

set_option maxHeartbeats 1000000 in
theorem of_r {z : Int} {L : Nat} {w : World} (h1 : -9223372036854775808 ≤ z) (h2 : z ≤ 9223372036854775807) (hL : 2 ≤ L) (hL2 : L ≤ 900000) :
    Calls Try.prog 28 #[.int .i64 z] w fun e w' => ∃ v', e = .returned v' ∧ RatN w' v' (Q.of z) L ∧ Below w.heap.size w w' := by
  unfold Q.of
  obtain ⟨neg, hneg⟩ : ∃ neg, decide (z < 0) = neg := ⟨_, rfl⟩
  have SZ : Hid (∀ w, Calls Try.prog 43 #[.int .i64 z] w fun e w' => ∃ v', e = .returned v' ∧ Nrm w' v' z.natAbs L ∧ Below w.heap.size w w') := Lib.hid (fun w => size_z h1 h2 hL)
  have OF : Hid (∀ w, Calls Try.prog 31 #[.int .u64 1] w fun e w' => ∃ v', e = .returned v' ∧ Nrm w' v' 1 L ∧ Below w.heap.size w w') := Lib.hid (fun w => nrm_of (n := 1) (by omega) hL)
  obtain ⟨n, hn⟩ : ∃ n, z.natAbs = n := ⟨_, rfl⟩
  rw [hn] at SZ ⊢
  have MK : Hid (∀ vn vd w, Num w vn n L → Num w vd 1 L → Calls Try.prog 42 #[.bool (decide (z < 0)), vn, vd] w fun e w' => ∃ v, e = .returned v ∧ RatN w' v (Q.mk' neg n 1) L ∧ Below w.heap.size w w') := Lib.hid (fun vn vd w h h' => by rw [hneg]; exact make_num h h' hL2 hL)
  rw [hneg]
  clear hneg hn
  go_enter Try.func28, Try.ntmps28
  go_wp2_with (first
    | (go_at_call 43; ((with_reducible refine (SZ.out _).mono ?_); rintro e w1 ⟨v1, rfl, hv1, hb1⟩))
    | (go_at_call 31; ((with_reducible refine (OF.out _).mono ?_); rintro e w2 ⟨v2, rfl, hv2, hb2⟩; have hb2' := bel2' hb1 hb2; have h12 := hv1.keep hb2))
    | (go_at_call 42; ((with_reducible refine (MK.out _ _ _ h12.num hv2.num).mono ?_); rintro e w3 ⟨v3, rfl, hv3, hb3⟩; have hb3' := bel2' hb2' hb3; obtain ⟨a1, b1, e1, a2, b2, e2, rfl, hvn, hvd⟩ := hv3.shape; have c0 := new_cell hb3' 0; have c1 := new_cell hb3' 1; have c2 := new_cell hb3' 2; have f0 := new_free hb3' 0; have f1 := new_free hb3' 1; have f2 := new_free hb3' 2; simp at c0 c1 c2)))
  refine bodyPost_ret (v := .agg #[.bool (Q.mk' neg n 1).neg, .slice a1 b1 e1, .slice a2 b2 e2]) (by simp [results, Try.results28, go_sem, c0, c1, c2]) rfl ?_
  exact ⟨_, rfl, ret3 hb3' (Nat.le_refl _) (Below.refl _ _) hvn hvd _ rfl⟩

set_option maxHeartbeats 2000000 in
theorem sum_num {an bn : Bool} {va vb : Value} {a b L : Nat} {w : World} (ha : Num w va a L) (hb : Num w vb b L) (hL : L ≤ 900000) :
    Calls Try.prog 67 #[.bool an, va, .bool bn, vb] w fun e w' => ∃ v', e = .returned (.tuple #[.bool (sumS an a bn b).1, v']) ∧ Nrm w' v' (sumS an a bn b).2 (L + 1) ∧ Below w.heap.size w w' := by
  have HA := Lib.hid ha
  have HB := Lib.hid hb
  clear ha hb
  by_cases h : an = bn
  · subst h
    have e : sumS an a an b = (an, a + b) := by unfold sumS; rw [if_pos rfl]
    rw [e]
    clear e
    have hbb : (an == an) = true := by simp
    go_enter Try.func67, Try.ntmps67
    go_wp2_with (go_at_call 77; ((with_reducible refine (add_num HA.out HB.out (by omega)).mono ?_); rintro e w1 ⟨v1, rfl, hv1, hb1⟩))
    go_ret2
    exact ⟨_, rfl, hv1, hb1⟩
  · have hbb : (an == bn) = false := by rw [beq_eq_false_iff_ne]; exact h
    rcases Nat.lt_or_ge a b with h2 | h2
    · have e : sumS an a bn b = (bn, b - a) := by unfold sumS; rw [if_neg h, if_neg (by omega)]
      rw [e]
      have H2 := Lib.hid h2
      have H3 := Lib.hid (Nat.le_of_lt h2)
      clear e h h2
      go_enter Try.func67, Try.ntmps67
      go_wp2_with (first
        | (go_at_call 78; ((with_reducible refine (sub_lt HA.out HB.out (by omega) (by omega) H2.out).mono ?_); rintro e w1 ⟨rfl, hb1⟩; have hak := HA.out.keep hb1; have hbk := HB.out.keep hb1))
        | (go_at_call 78; ((with_reducible refine (sub_ge hbk hak (by omega) (by omega) H3.out).mono ?_); rintro e w2 ⟨v2, rfl, hv2, hb2⟩; have hb2' := bel2' hb1 hb2)))
      go_ret2
      exact ⟨_, rfl, hv2.wider (by omega), hb2'⟩
    · have e : sumS an a bn b = (an, a - b) := by unfold sumS; rw [if_neg h, if_pos h2]
      rw [e]
      have H2 := Lib.hid h2
      clear e h h2
      go_enter Try.func67, Try.ntmps67
      go_wp2_with (go_at_call 78; ((with_reducible refine (sub_ge HA.out HB.out (by omega) (by omega) H2.out).mono ?_); rintro e w1 ⟨v1, rfl, hv1, hb1⟩))
      go_ret2
      exact ⟨_, rfl, hv1.wider (by omega), hb1⟩

end Go.Proofs.Ytlhkjkhbgebgiaa
