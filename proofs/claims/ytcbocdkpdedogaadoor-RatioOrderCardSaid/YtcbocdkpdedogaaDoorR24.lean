import Derived.Test.YtcbocdkpdedogaaDoorM22
import Derived.Test.YtcbocdkpdedogaaDoorRP
import Derived.Test.YtcbocdkpdedogaaDoorRS
import Derived.Test.YtcbocdkpdedogaaDoorMS
import Derived.Test.YtcbocdkpdedogaaDoorMW
namespace Go.Proofs.YtcbocdkpdedogaaDoor
open Go.RowKit Go.Proofs.Kit Go.Proofs.Nums

/-- What ratio.Parse hands back. -/
def ParseC (ok : Bool) (q : Q) (w : World) (e : Ending) (w' : World) : Prop :=
  (if ok = true then ∃ v, e = .returned (.tuple #[v, .bool true]) ∧ RatN w' v q 16 else e = .returned (.tuple #[.agg #[.bool false, .slice none 0 0, .slice none 0 0], .bool false])) ∧ Below w.heap.size w w'
theorem ParseC.no {ok : Bool} {q : Q} {w : World} {e : Ending} {w' : World} (h : ok = false) (he : e = .returned (.tuple #[.agg #[.bool false, .slice none 0 0, .slice none 0 0], .bool false])) (hb : Below w.heap.size w w') : ParseC ok q w e w' := ⟨by rw [h, if_neg (by simp)]; exact he, hb⟩
theorem ParseC.yes {ok : Bool} {q : Q} {w : World} {v : Value} {w' : World} (h : ok = true) (he : RatN w' v q 16 ∧ Below w.heap.size w w') : ParseC ok q w (.returned (.tuple #[v, .bool true])) w' := ⟨by rw [h, if_pos rfl]; exact ⟨v, rfl, he.1⟩, he.2⟩

/-- nat.Parse, in one form. -/
theorem parse_u {s : ByteArray} {w : World} (hs : s.size ≤ 100) :
    Calls Tryd.prog 56 #[.string s] w fun e w' => ∃ v', e = .returned (.tuple #[v', .bool (numB s.data.toList)]) ∧ Nrm w' v' (if numB s.data.toList then pvF s.data.toList else 0) 16 ∧ Below w.heap.size w w' := by
  by_cases h : numB s.data.toList = true
  · refine (parse_yes (by omega) h).mono ?_
    rintro e w' ⟨v', rfl, hv, hb⟩
    rw [h, if_pos rfl]
    refine ⟨v', rfl, ⟨hv, ?_⟩, hb⟩
    refine Nat.lt_of_lt_of_le (num_lt h) ?_
    have h1 := Lib.size_eq s
    exact Nat.le_trans (Nat.pow_le_pow_right (by omega) (show s.data.toList.length ≤ 100 by omega)) (by decide)
  · refine (parse_no (by omega) h).mono ?_
    rintro e w' ⟨rfl, hb⟩
    rw [Bool.not_eq_true] at h
    rw [h]
    exact ⟨_, rfl, nrm_nil' _ _, hb⟩

theorem cutB_le (l : List UInt8) : (cutB l).1.length ≤ l.length ∧ (cutB l).2.1.length ≤ l.length := by
  unfold cutB
  split
  · exact ⟨Nat.le_refl _, Nat.zero_le _⟩
  · exact ⟨by simp only [List.length_take]; omega, by simp only [List.length_drop]; omega⟩

set_option maxRecDepth 1000000 in
set_option maxHeartbeats 4000000 in
theorem parse_core {s rest a b0 bb t : ByteArray} {neg f ok1 ok2 okt : Bool} {n d : Nat} {q : Q} (w : World)
    (CP : Hid (∀ w, Calls Tryd.prog 54 #[.string s, .string ⟨#[45]⟩] w fun e w' => e = .returned (.tuple #[.string rest, .bool neg]) ∧ w' = w))
    (CU : Hid (∀ w, Calls Tryd.prog 55 #[.string rest, .string ⟨#[47]⟩] w fun e w' => e = .returned (.tuple #[.string a, .string b0, .bool f]) ∧ Below w.heap.size w w'))
    (hbb : f = true ∧ b0 = bb ∨ f = false ∧ bb = ⟨#[49]⟩)
    (PA : Hid (∀ w, Calls Tryd.prog 56 #[.string a] w fun e w' => ∃ p l k, e = .returned (.tuple #[.slice p l k, .bool ok1]) ∧ Nrm w' (.slice p l k) n 16 ∧ Below w.heap.size w w'))
    (PB : Hid (∀ w, Calls Tryd.prog 56 #[.string bb] w fun e w' => ∃ p l k, e = .returned (.tuple #[.slice p l k, .bool ok2]) ∧ Nrm w' (.slice p l k) d 16 ∧ Below w.heap.size w w'))
    (MK : Hid (∀ p l k p' l' k' w, Nrm w (.slice p l k) n 16 → Nrm w (.slice p' l' k') d 16 → Calls Tryd.prog 40 #[.bool neg, .slice p l k, .slice p' l' k'] w fun e w' => ∃ p1 l1 k1 p2 l2 k2, e = .returned (.agg #[.bool q.neg, .slice p1 l1 k1, .slice p2 l2 k2]) ∧ RatN w' (.agg #[.bool q.neg, .slice p1 l1 k1, .slice p2 l2 k2]) q 16 ∧ Below w.heap.size w w'))
    (TX : Hid (∀ v w, RatN w v q 16 → Calls Tryd.prog 20 #[v] w fun e w' => e = .returned (.string t) ∧ Below w.heap.size w w'))
    (ht : (t.toList == s.toList) = okt) :
    Calls Tryd.prog 21 #[.string s] w (ParseC (ok1 && ok2 && okt) q w) := by
  have B0 := Lib.hid (Blk.new w #[.bool false, .slice none 0 0, .slice none 0 0] 25)
  have hBd : Below w.heap.size w (w.alloc (.cells #[.bool false, .slice none 0 0, .slice none 0 0] 25)) := (Below.refl _ _).alloc (Nat.le_refl _) _
  obtain ⟨qn, hq⟩ : ∃ x, q.neg = x := ⟨_, rfl⟩
  rw [hq] at MK
  have HQ := Lib.hid hq
  clear hq
  rcases hbb with ⟨rfl, rfl⟩ | ⟨rfl, rfl⟩
  all_goals
    cases ok1
    · go_enter Tryd.func21, Tryd.ntmps21
      go_wp2_with (first
        | (go_at_call 54; ((with_reducible refine (CP.out _).mono ?_); rintro e w1 ⟨rfl, rfl⟩))
        | (go_at_call 55; ((with_reducible refine (CU.out _).mono ?_); rintro e w2 ⟨rfl, hb2⟩; have hB2 := bel2' hBd hb2; have B02 := Lib.hid (B0.out.keep hb2)))
        | (go_at_call 56; ((with_reducible refine (PA.out _).mono ?_); rintro e w3 ⟨p3, l3, k3, rfl, hv3, hb3⟩; have hB3 := bel2' hB2 hb3; have B03 := Lib.hid (B02.out.keep hb3)))
        | (go_at_call 56; ((with_reducible refine (PB.out _).mono ?_); rintro e w4 ⟨p4, l4, k4, rfl, hv4, hb4⟩; have hB4 := bel2' hB3 hb4; have B04 := Lib.hid (B03.out.keep hb4); have hv3b := hv3.keep hb4))
        | (go_at_call 40; ((with_reducible refine (MK.out _ _ _ _ _ _ _ hv3b hv4).mono ?_); rintro e w5 ⟨p5, l5, k5, p6, l6, k6, rfl, hv5, hb5⟩; have hB5 := bel2' hB4 hb5; have B05 := Lib.hid ((B04.out.keep hb5).alloc (.cells #[.bool qn, .slice p5 l5 k5, .slice p6 l6 k6] 25)); obtain ⟨m0, m1, m2⟩ := B05.out.three; obtain ⟨t0, t1, t2⟩ := B05.out.free3; have C05 := Lib.hid (Blk.new w5 #[.bool qn, .slice p5 l5 k5, .slice p6 l6 k6] 25); obtain ⟨n0, n1, n2⟩ := C05.out.three; have hB5a := hB5.alloc hB5.size (.cells #[.bool qn, .slice p5 l5 k5, .slice p6 l6 k6] 25); have hv5a := hv5.keep ((Below.refl _ _).alloc (Nat.le_refl _) (.cells #[.bool qn, .slice p5 l5 k5, .slice p6 l6 k6] 25))))
        | (go_at_call 20; ((with_reducible refine (TX.out _ _ hv5a).mono ?_); rintro e w6 ⟨rfl, hb6⟩; have hB6 := bel2' hB5a hb6; have B06 := Lib.hid (B05.out.keep hb6); obtain ⟨i0, i1, i2⟩ := B06.out.three; obtain ⟨j0, j1, j2⟩ := B06.out.free3; have C06 := Lib.hid (C05.out.keep hb6); obtain ⟨r0, r1, r2⟩ := C06.out.three; have hv6 := hv5a.keep hb6)))
      refine bodyPost_ret (v := .tuple #[.agg #[.bool false, .slice none 0 0, .slice none 0 0], .bool false]) (by simp [results, Tryd.results21, go_sem, m0, m1, m2]) rfl ?_
      exact ParseC.no (by first | rfl | simp) rfl (below_set3 hB5a (Nat.le_refl _) _ _ _)
    cases ok2
    · go_enter Tryd.func21, Tryd.ntmps21
      go_wp2_with (first
        | (go_at_call 54; ((with_reducible refine (CP.out _).mono ?_); rintro e w1 ⟨rfl, rfl⟩))
        | (go_at_call 55; ((with_reducible refine (CU.out _).mono ?_); rintro e w2 ⟨rfl, hb2⟩; have hB2 := bel2' hBd hb2; have B02 := Lib.hid (B0.out.keep hb2)))
        | (go_at_call 56; ((with_reducible refine (PA.out _).mono ?_); rintro e w3 ⟨p3, l3, k3, rfl, hv3, hb3⟩; have hB3 := bel2' hB2 hb3; have B03 := Lib.hid (B02.out.keep hb3)))
        | (go_at_call 56; ((with_reducible refine (PB.out _).mono ?_); rintro e w4 ⟨p4, l4, k4, rfl, hv4, hb4⟩; have hB4 := bel2' hB3 hb4; have B04 := Lib.hid (B03.out.keep hb4); have hv3b := hv3.keep hb4))
        | (go_at_call 40; ((with_reducible refine (MK.out _ _ _ _ _ _ _ hv3b hv4).mono ?_); rintro e w5 ⟨p5, l5, k5, p6, l6, k6, rfl, hv5, hb5⟩; have hB5 := bel2' hB4 hb5; have B05 := Lib.hid ((B04.out.keep hb5).alloc (.cells #[.bool qn, .slice p5 l5 k5, .slice p6 l6 k6] 25)); obtain ⟨m0, m1, m2⟩ := B05.out.three; obtain ⟨t0, t1, t2⟩ := B05.out.free3; have C05 := Lib.hid (Blk.new w5 #[.bool qn, .slice p5 l5 k5, .slice p6 l6 k6] 25); obtain ⟨n0, n1, n2⟩ := C05.out.three; have hB5a := hB5.alloc hB5.size (.cells #[.bool qn, .slice p5 l5 k5, .slice p6 l6 k6] 25); have hv5a := hv5.keep ((Below.refl _ _).alloc (Nat.le_refl _) (.cells #[.bool qn, .slice p5 l5 k5, .slice p6 l6 k6] 25))))
        | (go_at_call 20; ((with_reducible refine (TX.out _ _ hv5a).mono ?_); rintro e w6 ⟨rfl, hb6⟩; have hB6 := bel2' hB5a hb6; have B06 := Lib.hid (B05.out.keep hb6); obtain ⟨i0, i1, i2⟩ := B06.out.three; obtain ⟨j0, j1, j2⟩ := B06.out.free3; have C06 := Lib.hid (C05.out.keep hb6); obtain ⟨r0, r1, r2⟩ := C06.out.three; have hv6 := hv5a.keep hb6)))
      refine bodyPost_ret (v := .tuple #[.agg #[.bool false, .slice none 0 0, .slice none 0 0], .bool false]) (by simp [results, Tryd.results21, go_sem, m0, m1, m2]) rfl ?_
      exact ParseC.no (by first | rfl | simp) rfl (below_set3 hB5a (Nat.le_refl _) _ _ _)
    rcases okt with _ | _
    · have ht2 : (s.toList == t.toList) = false := by rw [beq_eq_false_iff_ne] at ht ⊢; exact fun e => ht e.symm
      go_enter Tryd.func21, Tryd.ntmps21
      go_wp2_with (first
        | (go_at_call 54; ((with_reducible refine (CP.out _).mono ?_); rintro e w1 ⟨rfl, rfl⟩))
        | (go_at_call 55; ((with_reducible refine (CU.out _).mono ?_); rintro e w2 ⟨rfl, hb2⟩; have hB2 := bel2' hBd hb2; have B02 := Lib.hid (B0.out.keep hb2)))
        | (go_at_call 56; ((with_reducible refine (PA.out _).mono ?_); rintro e w3 ⟨p3, l3, k3, rfl, hv3, hb3⟩; have hB3 := bel2' hB2 hb3; have B03 := Lib.hid (B02.out.keep hb3)))
        | (go_at_call 56; ((with_reducible refine (PB.out _).mono ?_); rintro e w4 ⟨p4, l4, k4, rfl, hv4, hb4⟩; have hB4 := bel2' hB3 hb4; have B04 := Lib.hid (B03.out.keep hb4); have hv3b := hv3.keep hb4))
        | (go_at_call 40; ((with_reducible refine (MK.out _ _ _ _ _ _ _ hv3b hv4).mono ?_); rintro e w5 ⟨p5, l5, k5, p6, l6, k6, rfl, hv5, hb5⟩; have hB5 := bel2' hB4 hb5; have B05 := Lib.hid ((B04.out.keep hb5).alloc (.cells #[.bool qn, .slice p5 l5 k5, .slice p6 l6 k6] 25)); obtain ⟨m0, m1, m2⟩ := B05.out.three; obtain ⟨t0, t1, t2⟩ := B05.out.free3; have C05 := Lib.hid (Blk.new w5 #[.bool qn, .slice p5 l5 k5, .slice p6 l6 k6] 25); obtain ⟨n0, n1, n2⟩ := C05.out.three; have hB5a := hB5.alloc hB5.size (.cells #[.bool qn, .slice p5 l5 k5, .slice p6 l6 k6] 25); have hv5a := hv5.keep ((Below.refl _ _).alloc (Nat.le_refl _) (.cells #[.bool qn, .slice p5 l5 k5, .slice p6 l6 k6] 25))))
        | (go_at_call 20; ((with_reducible refine (TX.out _ _ hv5a).mono ?_); rintro e w6 ⟨rfl, hb6⟩; have hB6 := bel2' hB5a hb6; have B06 := Lib.hid (B05.out.keep hb6); obtain ⟨i0, i1, i2⟩ := B06.out.three; obtain ⟨j0, j1, j2⟩ := B06.out.free3; have C06 := Lib.hid (C05.out.keep hb6); obtain ⟨r0, r1, r2⟩ := C06.out.three; have hv6 := hv5a.keep hb6)))
      refine bodyPost_ret (v := .tuple #[.agg #[.bool false, .slice none 0 0, .slice none 0 0], .bool false]) (by simp [results, Tryd.results21, go_sem, i0, i1, i2]) rfl ?_
      exact ParseC.no rfl rfl (below_set3 hB6 (Nat.le_refl _) _ _ _)
    · obtain rfl : t = s := by rw [beq_iff_eq, ByteArray.toList_eq, ByteArray.toList_eq] at ht; exact ByteArray.ext (Array.toList_inj.1 ht)
      go_enter Tryd.func21, Tryd.ntmps21
      go_wp2_with (first
        | (go_at_call 54; ((with_reducible refine (CP.out _).mono ?_); rintro e w1 ⟨rfl, rfl⟩))
        | (go_at_call 55; ((with_reducible refine (CU.out _).mono ?_); rintro e w2 ⟨rfl, hb2⟩; have hB2 := bel2' hBd hb2; have B02 := Lib.hid (B0.out.keep hb2)))
        | (go_at_call 56; ((with_reducible refine (PA.out _).mono ?_); rintro e w3 ⟨p3, l3, k3, rfl, hv3, hb3⟩; have hB3 := bel2' hB2 hb3; have B03 := Lib.hid (B02.out.keep hb3)))
        | (go_at_call 56; ((with_reducible refine (PB.out _).mono ?_); rintro e w4 ⟨p4, l4, k4, rfl, hv4, hb4⟩; have hB4 := bel2' hB3 hb4; have B04 := Lib.hid (B03.out.keep hb4); have hv3b := hv3.keep hb4))
        | (go_at_call 40; ((with_reducible refine (MK.out _ _ _ _ _ _ _ hv3b hv4).mono ?_); rintro e w5 ⟨p5, l5, k5, p6, l6, k6, rfl, hv5, hb5⟩; have hB5 := bel2' hB4 hb5; have B05 := Lib.hid ((B04.out.keep hb5).alloc (.cells #[.bool qn, .slice p5 l5 k5, .slice p6 l6 k6] 25)); obtain ⟨m0, m1, m2⟩ := B05.out.three; obtain ⟨t0, t1, t2⟩ := B05.out.free3; have C05 := Lib.hid (Blk.new w5 #[.bool qn, .slice p5 l5 k5, .slice p6 l6 k6] 25); obtain ⟨n0, n1, n2⟩ := C05.out.three; have hB5a := hB5.alloc hB5.size (.cells #[.bool qn, .slice p5 l5 k5, .slice p6 l6 k6] 25); have hv5a := hv5.keep ((Below.refl _ _).alloc (Nat.le_refl _) (.cells #[.bool qn, .slice p5 l5 k5, .slice p6 l6 k6] 25))))
        | (go_at_call 20; ((with_reducible refine (TX.out _ _ hv5a).mono ?_); rintro e w6 ⟨rfl, hb6⟩; have hB6 := bel2' hB5a hb6; have B06 := Lib.hid (B05.out.keep hb6); obtain ⟨i0, i1, i2⟩ := B06.out.three; obtain ⟨j0, j1, j2⟩ := B06.out.free3; have C06 := Lib.hid (C05.out.keep hb6); obtain ⟨r0, r1, r2⟩ := C06.out.three; have hv6 := hv5a.keep hb6)))
      refine bodyPost_ret (v := .tuple #[.agg #[.bool qn, .slice p5 l5 k5, .slice p6 l6 k6], .bool true]) (by simp [results, Tryd.results21, go_sem, i0, i1, i2]) rfl ?_
      have g := retN (q := q) hB6 (Nat.le_refl _) B06.out (by simp) (by simp) (by simp) hv6.get.1 hv6.get.2
      rw [HQ.out] at g
      exact ParseC.yes rfl g

theorem cutP_lens (l : List UInt8) : (restN l).length ≤ l.length ∧ (partA l).length ≤ l.length ∧ (partB l).length ≤ l.length + 1 := by
  have hr : (restN l).length ≤ l.length := by unfold restN; split <;> simp
  have hc := cutB_le (restN l)
  refine ⟨hr, Nat.le_trans hc.1 hr, ?_⟩
  unfold partB
  split
  · exact Nat.le_trans (Nat.le_trans hc.2 hr) (Nat.le_succ _)
  · simp

theorem parse_r (s : ByteArray) (w : World) (hs : s.size ≤ 90) :
    Calls Tryd.prog 21 #[.string s] w (ParseC (okP s.data.toList) (ratP s.data.toList) w) := by
  have hlen := Lib.size_eq s
  obtain ⟨h1, h2, h3⟩ := cutP_lens s.data.toList
  have CP : Hid (∀ w, Calls Tryd.prog 54 #[.string s, .string ⟨#[45]⟩] w fun e w' => e = .returned (.tuple #[.string ⟨(restN s.data.toList).toArray⟩, .bool (partN s.data.toList)]) ∧ w' = w) := Lib.hid (fun w => Tryd.strings_CutPrefix s ⟨#[45]⟩ w)
  have CU := Lib.hid (fun w => cut_one ⟨(restN s.data.toList).toArray⟩ w (by rw [Lib.size_eq]; show (restN s.data.toList).length ≤ _; omega))
  have hbb : (cutB (restN s.data.toList)).2.2 = true ∧ (⟨(cutB (restN s.data.toList)).2.1.toArray⟩ : ByteArray) = ⟨(partB s.data.toList).toArray⟩ ∨ (cutB (restN s.data.toList)).2.2 = false ∧ (⟨(partB s.data.toList).toArray⟩ : ByteArray) = ⟨#[49]⟩ := by
    unfold partB
    cases h : (cutB (restN s.data.toList)).2.2
    · right; exact ⟨rfl, rfl⟩
    · left; exact ⟨rfl, rfl⟩
  have PU : ∀ (l : List UInt8), l.length ≤ 100 → ∀ w, Calls Tryd.prog 56 #[.string ⟨l.toArray⟩] w fun e w' => ∃ p n k, e = .returned (.tuple #[.slice p n k, .bool (numB l)]) ∧ Nrm w' (.slice p n k) (if numB l then pvF l else 0) 16 ∧ Below w.heap.size w w' := fun l hl w => by
    refine (parse_u (s := ⟨l.toArray⟩) (by rw [Lib.size_eq]; exact hl)).mono ?_
    rintro e w' ⟨v', rfl, hv, hb⟩
    obtain ⟨p, n, k, rfl⟩ := hv.shape
    exact ⟨p, n, k, rfl, hv, hb⟩
  obtain ⟨n, hn⟩ : ∃ n, (if numB (partA s.data.toList) then pvF (partA s.data.toList) else 0) = n := ⟨_, rfl⟩
  obtain ⟨d, hd⟩ : ∃ d, (if numB (partB s.data.toList) then pvF (partB s.data.toList) else 0) = d := ⟨_, rfl⟩
  have PA := PU (partA s.data.toList) (by omega)
  have PB := PU (partB s.data.toList) (by omega)
  rw [hn] at PA
  rw [hd] at PB
  obtain ⟨q, hq⟩ : ∃ q, Q.mk' (partN s.data.toList) n d = q := ⟨_, rfl⟩
  have hnf : q.Nf := by rw [← hq]; exact Q.mk'_nf _ _ _
  have := parse_core (q := q) (t := ⟨(ratB q).toArray⟩) (neg := partN s.data.toList) w CP CU hbb (Lib.hid PA) (Lib.hid PB)
    (Lib.hid (fun p l k p' l' k' w g1 g2 => by
      refine (make_num (L := 16) g1.num g2.num (by omega) (by omega)).mono ?_
      rintro e w' ⟨v, rfl, hv, hb⟩
      rw [hq] at hv
      obtain ⟨p1, l1, k1, p2, l2, k2, rfl, _, _⟩ := hv.shape
      exact ⟨_, _, _, _, _, _, rfl, hv, hb⟩))
    (Lib.hid (fun v w g => by
      have := text_r g.at (by omega) (by omega)
      rw [Q.nf_norm hnf] at this
      exact this)) rfl
  refine this.mono ?_
  rintro e w' ⟨g1, g2⟩
  refine ⟨?_, g2⟩
  have ht : ((⟨(ratB q).toArray⟩ : ByteArray).toList == s.toList) = (ratB q == s.data.toList) := by rw [ByteArray.toList_eq, ByteArray.toList_eq]
  rw [ht] at g1
  unfold okP
  by_cases k1 : numB (partA s.data.toList) = true
  · by_cases k2 : numB (partB s.data.toList) = true
    · have e1 : q = ratP s.data.toList := by
        rw [← hq, ← hn, ← hd, if_pos k1, if_pos k2]; rfl
      rw [e1] at g1
      exact g1
    · rw [Bool.not_eq_true] at k2
      rw [k2] at g1 ⊢
      simpa using g1
  · rw [Bool.not_eq_true] at k1
    rw [k1] at g1 ⊢
    simpa using g1

end Go.Proofs.YtcbocdkpdedogaaDoor
