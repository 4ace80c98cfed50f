import Derived.Test.YtcbocdkpdedogaaDoorR25
import Derived.Test.YtcbocdkpdedogaaDoorR14
import Derived.Deep.RegionHeld3
namespace Go.Proofs.YtcbocdkpdedogaaDoor
open Go.RowKit Go.Proofs.Kit Go.Proofs.Nums

theorem ib_spec (l : List UInt8) (c : UInt8) :
    (Lib.indexByte l c < 0 ∧ ∀ k (h : k < l.length), l[k] ≠ c) ∨ (∃ p : Nat, ∃ h : p < l.length, Lib.indexByte l c = p ∧ l[p] = c ∧ ∀ k (h : k < l.length), k < p → l[k] ≠ c) := by
  induction l with
  | nil => left; exact ⟨by unfold Lib.indexByte; decide, fun k h => by simp at h⟩
  | cons b l ih =>
    by_cases hb : b = c
    · right
      refine ⟨0, by simp, ?_, by simpa using hb, fun k h h0 => by omega⟩
      unfold Lib.indexByte
      rw [if_pos (by rw [beq_iff_eq]; exact hb)]
      rfl
    · have hb2 : ¬ (b == c) = true := by rw [beq_iff_eq]; exact hb
      rcases ih with ⟨h1, h2⟩ | ⟨p, hp, h1, h2, h3⟩
      · left
        have hg := Lib.indexByte_ge l c
        have e1 : Lib.indexByte l c = -1 := by omega
        refine ⟨?_, fun k h => ?_⟩
        · unfold Lib.indexByte
          rw [if_neg hb2, e1]; decide
        · cases k with
          | zero => simpa using hb
          | succ k => simpa using h2 k (by simpa using h)
      · right
        refine ⟨p + 1, by simpa using hp, ?_, by simpa using h2, fun k h hk => ?_⟩
        · unfold Lib.indexByte
          rw [if_neg hb2, h1, if_neg (by rw [beq_iff_eq]; omega)]
          omega
        · cases k with
          | zero => simpa using hb
          | succ k => simpa using h3 k (by simpa using h) (by omega)

theorem arr_idx (l : List UInt8) (k : Nat) (h : k < (⟨l.toArray⟩ : ByteArray).size) (h' : k < l.length) : (⟨l.toArray⟩ : ByteArray)[k]'h = l[k] := rfl

/-- Read of the numbers, in one form. -/
theorem read_u {s : ByteArray} {w : World} (hs : s.size ≤ 100) :
    Calls Tryd.prog 59 #[.string s] w fun e w' => ∃ p k, e = .returned (.tuple #[.slice p (bitsN (if numB s.data.toList then pvF s.data.toList else 0)).length k, .bool (numB s.data.toList)]) ∧ BitAt w' (.slice p (bitsN (if numB s.data.toList then pvF s.data.toList else 0)).length k) (bitsN (if numB s.data.toList then pvF s.data.toList else 0)) ∧ Below w.heap.size w w' := by
  by_cases h : numB s.data.toList = true
  · refine (read_yes (by omega) h).mono ?_
    rintro e w' ⟨v', rfl, hv, hb⟩
    rw [h, if_pos rfl]
    obtain ⟨p, c, rfl⟩ := hv.shape
    exact ⟨p, c, rfl, hv, hb⟩
  · refine (read_no (by omega) h).mono ?_
    rintro e w' ⟨rfl, hb⟩
    rw [Bool.not_eq_true] at h
    rw [h]
    exact ⟨none, 0, rfl, BitAt.nil _, hb⟩

theorem bits_u {l : List UInt8} (h : l.length ≤ 100) : (bitsN (if numB l then pvF l else 0)).length ≤ 512 := by
  by_cases k : numB l = true
  · rw [if_pos k]
    refine Nat.le_trans (bits_len_le _ (4 * l.length) (Nat.lt_of_lt_of_le (num_lt k) ?_)) (by omega)
    rw [Nat.pow_mul]
    exact Nat.pow_le_pow_left (by decide) _
  · rw [if_neg k]; exact Nat.zero_le _

theorem rread_r (s : ByteArray) (w : World) (hs : s.size ≤ 90) :
    Calls Tryd.prog 23 #[.string s] w (ReadC (okP s.data.toList) (ratP s.data.toList) w) := by
  have hlen := Lib.size_eq s
  obtain ⟨h1, h2, h3⟩ := cutP_lens s.data.toList
  obtain ⟨l, hl⟩ : ∃ l, s.data.toList = l := ⟨_, rfl⟩
  obtain rfl : s = ⟨l.toArray⟩ := bs_of hl
  clear hl
  simp only at *
  have hneg : (partN l = false ∧ (⟨(restN l).toArray⟩ : ByteArray) = ⟨l.toArray⟩ ∧ (((⟨l.toArray⟩ : ByteArray).toList = [] ∧ (⟨l.toArray⟩ : ByteArray).toList.isEmpty = true) ∨ ((¬ (⟨l.toArray⟩ : ByteArray).toList = []) ∧ (⟨l.toArray⟩ : ByteArray).toList.isEmpty = false ∧ ∃ x0, ∃ h : 0 < (⟨l.toArray⟩ : ByteArray).size, (⟨l.toArray⟩ : ByteArray)[0]'h = x0 ∧ ((x0.toNat : Int) == 45) = false))) ∨
      (partN l = true ∧ (¬ (⟨l.toArray⟩ : ByteArray).toList = []) ∧ (⟨l.toArray⟩ : ByteArray).toList.isEmpty = false ∧ (∃ x0, ∃ h : 0 < (⟨l.toArray⟩ : ByteArray).size, (⟨l.toArray⟩ : ByteArray)[0]'h = x0 ∧ ((x0.toNat : Int) == 45) = true) ∧ Hid ((⟨l.toArray⟩ : ByteArray).extract 1 (⟨l.toArray⟩ : ByteArray).size = ⟨(restN l).toArray⟩)) := by
    rw [ByteArray.toList_eq]
    cases l with
    | nil => left; exact ⟨rfl, rfl, .inl ⟨rfl, rfl⟩⟩
    | cons x t =>
      have hz : 0 < (⟨(x :: t).toArray⟩ : ByteArray).size := by rw [Lib.size_eq]; simp
      by_cases hx : x = 45
      · right
        subst hx
        refine ⟨rfl, by simp, by simp, ⟨45, hz, rfl, rfl⟩, Lib.hid (bs_of ?_)⟩
        rw [ext_drop]; rfl
      · left
        have hp : partN (x :: t) = false := by
          unfold partN
          simp [List.isPrefixOf]
          exact fun e => hx e.symm
        refine ⟨hp, ?_, .inr ⟨by simp, by simp, x, hz, rfl, ?_⟩⟩
        · unfold restN; rw [hp, if_neg (by simp)]
        · rw [beq_eq_false_iff_ne]; intro h'; apply hx; exact UInt8.toNat_inj.1 (by have : (45 : UInt8).toNat = 45 := rfl; omega)
  have hf : ((⟨(partA l).toArray⟩ : ByteArray) = ⟨(restN l).toArray⟩ ∧ (⟨(partB l).toArray⟩ : ByteArray) = ⟨#[49]⟩ ∧ Hid (∀ k (h : k < (⟨(restN l).toArray⟩ : ByteArray).size), (⟨(restN l).toArray⟩ : ByteArray)[k]'h ≠ 47)) ∨
      (∃ p, ∃ h : p < (⟨(restN l).toArray⟩ : ByteArray).size, Hid (∀ k (h : k < (⟨(restN l).toArray⟩ : ByteArray).size), k < p → (⟨(restN l).toArray⟩ : ByteArray)[k]'h ≠ 47) ∧ (⟨(restN l).toArray⟩ : ByteArray)[p]'h = 47 ∧ Hid ((⟨(restN l).toArray⟩ : ByteArray).extract 0 p = ⟨(partA l).toArray⟩) ∧ Hid ((⟨(restN l).toArray⟩ : ByteArray).extract (p + 1) (⟨(restN l).toArray⟩ : ByteArray).size = ⟨(partB l).toArray⟩)) := by
    have hz : (⟨(restN l).toArray⟩ : ByteArray).size = (restN l).length := Lib.size_eq _
    rcases ib_spec (restN l) 47 with ⟨g1, g2⟩ | ⟨p, hp, g1, g2, g3⟩
    · left
      have e : cutB (restN l) = (restN l, [], false) := by unfold cutB; rw [if_pos g1]
      refine ⟨by unfold partA; rw [e], by unfold partB; rw [e]; rfl, Lib.hid fun k h => ?_⟩
      exact g2 k (by omega)
    · right
      have e : cutB (restN l) = ((restN l).take p, (restN l).drop (p + 1), true) := by
        unfold cutB
        rw [g1, if_neg (by omega)]
        rfl
      refine ⟨p, by omega, Lib.hid fun k h hk => g3 k (by omega) hk, g2, Lib.hid (bs_of ?_), Lib.hid (bs_of ?_)⟩
      · rw [ext_upto]; unfold partA; rw [e]
      · rw [ext_drop]; unfold partB; rw [e, if_pos rfl]
  have RU : ∀ (l : List UInt8), l.length ≤ 100 → ∀ w, Calls Tryd.prog 59 #[.string ⟨l.toArray⟩] w fun e w' => ∃ p k, e = .returned (.tuple #[.slice p (bitsN (if numB l then pvF l else 0)).length k, .bool (numB l)]) ∧ BitAt w' (.slice p (bitsN (if numB l then pvF l else 0)).length k) (bitsN (if numB l then pvF l else 0)) ∧ Below w.heap.size w w' := fun l hl w =>
    read_u (s := ⟨l.toArray⟩) (by rw [Lib.size_eq]; exact hl)
  have RA := RU (partA l) (by omega)
  have RB := RU (partB l) (by omega)
  have zn := bits_u (l := partA l) (by omega)
  have zd := bits_u (l := partB l) (by omega)
  obtain ⟨n, hn⟩ : ∃ n, (if numB (partA l) then pvF (partA l) else 0) = n := ⟨_, rfl⟩
  obtain ⟨d, hd⟩ : ∃ d, (if numB (partB l) then pvF (partB l) else 0) = d := ⟨_, rfl⟩
  rw [hn] at RA zn
  rw [hd] at RB zd
  obtain ⟨q, hq⟩ : ∃ q, Q.mk' (partN l) n d = q := ⟨_, rfl⟩
  have hsz : q.Sz 512 := by rw [← hq]; exact Q.mk'_sz zn zd (by omega)
  have := rread_core (q := q) (t := ⟨(ratB q).toArray⟩) (neg := partN l) (n := n) (d := d) (ok1 := numB (partA l)) (ok2 := numB (partB l)) w (by omega) (by rw [Lib.size_eq]; show (restN l).length ≤ _; omega) hneg hf
    (Lib.hid (fun w => (RA w).mono (by rintro e w' ⟨p, k, rfl, g1, g2⟩; exact ⟨_, _, _, rfl, g1, g2⟩))) (Lib.hid RB)
    (Lib.hid (fun v v' w g1 g2 => by
      refine (rnorm_r g1 g2 (Nat.le_trans zn (by omega)) (Nat.le_trans zd (by omega))).mono ?_
      rintro e w' ⟨v, rfl, hv, hb⟩
      rw [hq] at hv
      obtain ⟨p1, l1, k1, p2, l2, k2, rfl, _, _⟩ := hv.shape
      exact ⟨_, _, _, _, _, _, rfl, RIn.of hv, hb⟩))
    (Lib.hid (fun v w g => rtext_r g ⟨Nat.le_trans hsz.1 (by omega), Nat.le_trans hsz.2 (by omega)⟩)) rfl
  refine this.mono ?_
  rintro e w' ⟨⟨b, p, k, c, p', k', c', rfl, g1⟩, g2⟩
  have ht : ((⟨(ratB q).toArray⟩ : ByteArray).toList == (⟨l.toArray⟩ : ByteArray).toList) = (ratB q == l) := by rw [ByteArray.toList_eq, ByteArray.toList_eq]
  rw [ht] at g1 ⊢
  have key : (numB (partA l) && numB (partB l) && decide (d ≠ 0) && (ratB q == l)) = okP l ∧ (okP l = true → q = ratP l) := by
    by_cases k1 : numB (partA l) = true
    · by_cases k2 : numB (partB l) = true
      · have e1 : q = ratP l := by rw [← hq, ← hn, ← hd, if_pos k1, if_pos k2]; rfl
        refine ⟨?_, fun _ => e1⟩
        rcases Nat.eq_zero_or_pos d with h0 | h0
        · have : okP l = false := by
            rw [Bool.eq_false_iff]
            intro ho
            have := okP_den ho
            rw [if_pos k2] at hd
            omega
          rw [this, h0]; simp
        · unfold okP
          rw [k1, k2, e1, decide_eq_true (show d ≠ 0 by omega)]; simp
      · rw [Bool.not_eq_true] at k2
        have : okP l = false := by unfold okP; rw [k2]; simp
        rw [this, k2]; simp
    · rw [Bool.not_eq_true] at k1
      have : okP l = false := by unfold okP; rw [k1]; simp
      rw [this, k1]; simp
  rw [key.1] at g1 ⊢
  exact ⟨⟨b, p, k, c, p', k', c', rfl, fun h => by rw [← key.2 h]; exact g1 h⟩, g2⟩

end Go.Proofs.YtcbocdkpdedogaaDoor

namespace Go.Proofs.YtcbocdkpdedogaaDoor
open Go.RowKit Go.Proofs.Kit Go.Proofs.Nums

set_option maxRecDepth 100000 in
theorem awake_okP : okP [45, 51, 47, 50] = true := by decide
set_option maxRecDepth 100000 in
theorem awake_ratP : ratP [45, 51, 47, 50] = ⟨true, 3, 2⟩ := rfl
set_option maxRecDepth 100000 in
theorem awake_add : Q.add ⟨true, 3, 2⟩ (Q.of 2) = ⟨false, 1, 2⟩ := rfl
set_option maxRecDepth 100000 in
theorem awake_txt : ratB (Q.norm ⟨false, 1, 2⟩) = [49, 47, 50] := rfl
set_option maxRecDepth 100000 in
theorem awake_cmp : Q.cmp ⟨true, 3, 2⟩ (Q.mk' true 6 4) = 0 := rfl

set_option maxRecDepth 1000000 in
set_option maxHeartbeats 8000000 in
theorem rawake_r (w : World) :
    Calls Tryd.prog 14 #[] w fun e w' => e = .returned (.bool true) ∧ Below w.heap.size w w' := by
  have PR : Hid (∀ w, Calls Tryd.prog 21 #[.string ⟨#[45, 51, 47, 50]⟩] w fun e w' => ∃ p l k p' l' k', e = .returned (.tuple #[.agg #[.bool true, .slice p l k, .slice p' l' k'], .bool true]) ∧ RatN w' (.agg #[.bool true, .slice p l k, .slice p' l' k']) ⟨true, 3, 2⟩ 16 ∧ Below w.heap.size w w') := Lib.hid (fun w => by
    refine (parse_r ⟨#[45, 51, 47, 50]⟩ w (by decide)).mono ?_
    rintro e w' ⟨g1, g2⟩
    rw [if_pos awake_okP] at g1
    obtain ⟨v, rfl, hv⟩ := g1
    have hv2 : RatN w' v ⟨true, 3, 2⟩ 16 := hv
    obtain ⟨p1, l1, k1, p2, l2, k2, rfl, _, _⟩ := hv2.shape
    exact ⟨_, _, _, _, _, _, rfl, hv2, g2⟩)
  have OF : Hid (∀ w, Calls Tryd.prog 27 #[.int .i64 2] w fun e w' => ∃ v, e = .returned v ∧ RatN w' v (Q.of 2) 16 ∧ Below w.heap.size w w') := Lib.hid (fun w => of_r (by omega) (by omega) (by omega) (by omega))
  have AD : Hid (∀ v v' w, RatN w v ⟨true, 3, 2⟩ 16 → RatN w v' (Q.of 2) 16 → Calls Tryd.prog 16 #[v, v'] w fun e w' => ∃ v, e = .returned v ∧ RatN w' v ⟨false, 1, 2⟩ 33 ∧ Below w.heap.size w w') := Lib.hid (fun v v' w g1 g2 => by
    have := add_r (L := 16) g1.at g2.at (by omega) (by omega)
    rw [awake_add] at this; exact this)
  have TX : Hid (∀ v w, RatN w v ⟨false, 1, 2⟩ 33 → Calls Tryd.prog 20 #[v] w fun e w' => e = .returned (.string ⟨#[49, 47, 50]⟩) ∧ Below w.heap.size w w') := Lib.hid (fun v w g => by
    have := text_r (L := 33) g.at (by omega) (by omega)
    rw [awake_txt] at this; exact this)
  have FR : Hid (∀ w, Calls Tryd.prog 28 #[.int .i64 (-6), .int .i64 4] w fun e w' => ∃ v, e = .returned v ∧ RatN w' v (Q.mk' true 6 4) 16 ∧ Below w.heap.size w w') := Lib.hid (fun w => frac_r (by omega) (by omega) (by omega) (by omega) (by omega) (by omega))
  have CM : Hid (∀ v v' w, RatN w v ⟨true, 3, 2⟩ 16 → RatN w v' (Q.mk' true 6 4) 16 → Calls Tryd.prog 36 #[v, v'] w fun e w' => e = .returned (.int .i64 0) ∧ Below w.heap.size w w') := Lib.hid (fun v v' w g1 g2 => by
    have := cmp_r (L := 16) g1.at g2.at (by omega) (by omega)
    rw [awake_cmp] at this; exact this)
  go_enter Tryd.func14, Tryd.ntmps14
  go_wp2_with (go_at_call 21; ((with_reducible refine (PR.out _).mono ?_); rintro e w1 ⟨p1, l1, k1, p2, l2, k2, rfl, hv1, hb1⟩; have hB1 := (hb1.alloc hb1.size (.cells #[.bool true, .slice p1 l1 k1, .slice p2 l2 k2] 25)).drew; have B1 := Lib.hid (Blk.new w1 #[.bool true, .slice p1 l1 k1, .slice p2 l2 k2] 25).drew; have hv1b := hv1.keep ((Below.refl _ _).alloc (Nat.le_refl _) (.cells #[.bool true, .slice p1 l1 k1, .slice p2 l2 k2] 25)).drew))
  go_region_held3 (fun w' => w'.cell? ⟨w1.heap.size, 0, none⟩ = some (.bool true) ∧ w'.cell? ⟨w1.heap.size, 1, none⟩ = some (.slice p1 l1 k1) ∧ w'.cell? ⟨w1.heap.size, 2, none⟩ = some (.slice p2 l2 k2))
    (first | exact B1.out.three | exact B2.out.three | exact B3.out.three | exact B4.out.three | exact B5.out.three | exact B6.out.three)
    (first
      | (go_at_call 27; ((with_reducible refine (OF.out _).mono ?_); rintro e w2 ⟨v2, rfl, hv2, hb2⟩; have hB2 := bel2' hB1 hb2; have B2 := Lib.hid (B1.out.keep hb2); have hv12 := hv1b.keep hb2))
      | (go_at_call 16; ((with_reducible refine (AD.out _ _ _ hv12 hv2).mono ?_); rintro e w3 ⟨v3, rfl, hv3, hb3⟩; have hB3 := bel2' hB2 hb3; have B3 := Lib.hid (B2.out.keep hb3); have hv13 := hv12.keep hb3))
      | (go_at_call 20; ((with_reducible refine (TX.out _ _ hv3).mono ?_); rintro e w4 ⟨rfl, hb4⟩; have hB4 := bel2' hB3 hb4; have B4 := Lib.hid (B3.out.keep hb4); have hv14 := hv13.keep hb4))
      | (go_at_call 28; ((with_reducible refine (FR.out _).mono ?_); rintro e w5 ⟨v5, rfl, hv5, hb5⟩; have hB5 := bel2' hB4 hb5; have B5 := Lib.hid (B4.out.keep hb5); have hv15 := hv14.keep hb5))
      | (go_at_call 36; ((with_reducible refine (CM.out _ _ _ hv15 hv5).mono ?_); rintro e w6 ⟨rfl, hb6⟩; have hB6 := bel2' hB5 hb6; have B6 := Lib.hid (B5.out.keep hb6))))
  all_goals
    go_wp2_with fail
    go_ret
    exact ⟨rfl, hB6⟩

end Go.Proofs.YtcbocdkpdedogaaDoor
