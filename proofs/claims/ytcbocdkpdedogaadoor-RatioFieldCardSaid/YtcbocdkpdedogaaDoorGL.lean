import Derived.Test.YtcbocdkpdedogaaDoorMJ
import Derived.Test.YtcbocdkpdedogaaDoorGD
import Derived.Test.YtcbocdkpdedogaaDoorGE
import Derived.Deep.RegionHeld3
namespace Go.Proofs.YtcbocdkpdedogaaDoor
open Go.RowKit Go.Proofs.Kit Go.Proofs.Nums

theorem pv_bits {l : List UInt8} {k : Nat} (hk : k ≤ l.length) (h : DigTo l k) : (bitsN (pvF (l.take k))).length ≤ 4 * k := by
  have := pvF_take_lt l k hk h
  refine bits_len_le _ _ (Nat.lt_of_lt_of_le this ?_)
  rw [Nat.pow_mul]
  exact Nat.pow_le_pow_left (by omega) k

/-- What Read hands back. -/
def ReadRet (l : List UInt8) (w : World) (e : Ending) (w' : World) : Prop :=
  (if numB l = true then ∃ v', e = .returned (.tuple #[v', .bool true]) ∧ BitAt w' v' (bitsN (pvF l)) else e = .returned (.tuple #[.slice none 0 0, .bool false])) ∧ Below w.heap.size w w'

theorem ReadRet.no {l : List UInt8} {w w' : World} {e : Ending} (h : numB l = false) (he : e = .returned (.tuple #[.slice none 0 0, .bool false])) (hb : Below w.heap.size w w') : ReadRet l w e w' := by
  unfold ReadRet; rw [if_neg (by rw [h]; decide)]; exact ⟨he, hb⟩
theorem ReadRet.yes {l : List UInt8} {w w' : World} {v : Value} (h : numB l = true) (hv : BitAt w' v (bitsN (pvF l))) (hb : Below w.heap.size w w') : ReadRet l w (.returned (.tuple #[v, .bool true])) w' := by
  unfold ReadRet; rw [if_pos h]; exact ⟨⟨v, rfl, hv⟩, hb⟩

theorem rmul_b (va vb : Value) (n m : Nat) (w : World) (ha : BitAt w va (bitsN n)) (hb : BitAt w vb (bitsN m)) (h1 : (bitsN n).length ≤ 20000) (h2 : (bitsN m).length ≤ 20000) :
    Calls Tryd.prog 49 #[va, vb] w fun e w' => ∃ v', e = .returned v' ∧ BitAt w' v' (bitsN (n * m)) ∧ Below w.heap.size w w' := by
  have := rmul_any va vb _ _ w ha hb h1 h2
  rw [bval_bits, bval_bits] at this; exact this

theorem radd_s (va vb : Value) (n d : Nat) (w : World) (ha : BitAt w va (bitsN n)) (hb : BitAt w vb (bitsN d)) (h1 : Hid ((bitsN n).length ≤ 40000)) (hd : d ≤ 9) :
    Calls Tryd.prog 50 #[va, vb] w fun e w' => ∃ v', e = .returned v' ∧ BitAt w' v' (bitsN (n + d)) ∧ Below w.heap.size w w' :=
  radd_n va vb n d w ha hb (Nat.le_trans h1.out (by omega)) (Nat.le_trans (bits_len_le d 4 (by omega)) (by omega))

set_option maxRecDepth 1000000 in
set_option maxHeartbeats 4000000 in
theorem read_any (s : ByteArray) (w : World) (hs : s.size ≤ 3000) :
    Calls Tryd.prog 59 #[.string s] w (ReadRet s.data.toList w) := by
  by_cases h0 : s = ⟨#[]⟩
  · subst h0
    go_enter Tryd.func59, Tryd.ntmps59
    go_wp2_with fail
    go_ret2
    exact ReadRet.no rfl rfl (Below.refl _ _)
  · have hE : ¬ s.toList = [] := by
      rw [ByteArray.toList_eq]; intro h; apply h0; exact str_of h
    have hE2 : s.toList.isEmpty = false := by
      cases hh : s.toList with
      | nil => exact absurd hh hE
      | cons x l => rfl
    have hsz : 0 < s.size := by
      rcases Nat.eq_zero_or_pos s.size with h | h
      · exfalso; apply hE; rw [ByteArray.toList_eq]
        exact List.eq_nil_of_length_eq_zero (by rw [← Lib.size_eq]; exact h)
      · exact h
    obtain ⟨l, hl⟩ : ∃ l, s.data.toList = l := ⟨_, rfl⟩
    have hll : s.size = l.length := by rw [Lib.size_eq, hl]
    have HLL := Lib.hid hll
    have HBAT : Hid (∀ k (h : k < s.size), (s[k]'h) = bat l k) := Lib.hid (fun k h => by rw [byte_at, hl])
    obtain ⟨x0, hx0⟩ : ∃ x0, bat l 0 = x0 := ⟨_, rfl⟩
    have hs0 : s[0] = x0 := by rw [HBAT.out 0 hsz]; exact hx0
    rw [hl]
    clear h0 hll hl
    by_cases hC : x0 = 48 ∧ 1 < s.size
    · have hN : Hid (numB l = false) := Lib.hid (numB_zero (by rw [hx0, hC.1]) (by rw [← HLL.out]; exact hC.2))
      have h1 : 1 < s.size := hC.2
      have hb : ((x0.toNat : Int) == 48) = true := by rw [hC.1]; rfl
      clear hC hx0
      go_enter Tryd.func59, Tryd.ntmps59
      go_wp2_with fail
      go_ret2
      exact ReadRet.no hN.out rfl (Below.refl _ _)
    · have HGOOD : Hid (DigTo l l.length → numB l = true) := Lib.hid (fun h => numB_good (by rw [← HLL.out]; exact hsz) (by rw [hx0, ← HLL.out]; exact hC) h)
      have hor2 : (decide ((1 : Int) < (s.size : Int)) = false) ∨ ((x0.toNat : Int) == 48) = false := by
        by_cases h : x0 = 48
        · left
          rcases Nat.lt_or_ge 1 s.size with h3 | h3
          · exact absurd ⟨h, h3⟩ hC
          · rw [decide_eq_false_iff_not]; omega
        · right
          rw [beq_eq_false_iff_ne]; intro h'; apply h; exact UInt8.toNat_inj.1 (by exact_mod_cast h')
      have hor : (decide ((1 : Int) < (s.size : Int)) = false) ∨ (((x0.toNat : Int) == 48) = false ∧ (1 : Int) < (s.size : Int)) := by
        by_cases h : (1 : Int) < (s.size : Int)
        · rcases hor2 with h2 | h2
          · rw [decide_eq_false_iff_not] at h2; exact absurd h h2
          · exact .inr ⟨h2, h⟩
        · left; rw [decide_eq_false_iff_not]; exact h
      clear hC hx0 hor2
      rcases hor with h1 | ⟨hb, h1⟩
      all_goals
        go_enter Tryd.func59, Tryd.ntmps59
        go_wp2_with fail
        go_loopw [4, 5] (fun av iv wr => ∃ k : Nat, k ≤ s.size ∧ iv = .int .i64 k ∧ BitAt wr av (bitsN (pvF (l.take k))) ∧ Hid (DigTo l k) ∧ Below w.heap.size w wr) (fun _ iv _ => s.size - (intOf iv).toNat)
        case atStart => exact ⟨0, by omega, rfl, by simp only [List.take_zero]; exact BitAt.nil _, Lib.hid (fun j hj => absurd hj (by omega)), Below.refl _ _⟩
        case round =>
          obtain ⟨k, hk, rfl, hA, hI, hbel⟩ := hrel
          have HA := Lib.hid hA
          clear hA
          by_cases hlt : k < s.size
          · obtain ⟨x, hx⟩ : ∃ x, bat l k = x := ⟨_, rfl⟩
            have hsk : s[k] = x := by rw [HBAT.out k hlt]; exact hx
            have HX := Lib.hid hx
            clear hx
            by_cases h48 : x.toNat < 48
            · have hN : Hid (numB l = false) := Lib.hid (numB_bad (k := k) (by rw [← HLL.out]; exact hlt) (by rw [HX.out]; unfold isDig; simp; omega))
              go_wp2_with fail
              go_ret2
              exact ReadRet.no hN.out rfl hbel
            · by_cases h57 : 57 < x.toNat
              · have hN : Hid (numB l = false) := Lib.hid (numB_bad (k := k) (by rw [← HLL.out]; exact hlt) (by rw [HX.out]; unfold isDig; simp; omega))
                go_wp2_with fail
                go_ret2
                exact ReadRet.no hN.out rfl hbel
              · have hdt : Hid (DigTo l (k + 1)) := Lib.hid (hI.out.succ (by rw [HX.out]; exact isDig_iff.2 ⟨by omega, by omega⟩))
                obtain ⟨d, hdd⟩ : ∃ d, x.toNat - 48 = d := ⟨_, rfl⟩
                have hdi : (x.toNat : Int) - 48 = (d : Int) := by omega
                have hd9 : d ≤ 9 := by omega
                have hst : Hid (pvF (l.take (k + 1)) = pvF (l.take k) * 10 + d) := Lib.hid (by rw [pvF_take l k (by rw [← HLL.out]; exact hlt), HX.out, hdd, Nat.mul_comm])
                have hlen : Hid ((bitsN (pvF (l.take k))).length ≤ 12000) := Lib.hid (Nat.le_trans (pv_bits (by rw [← HLL.out]; exact hk) hI.out) (by omega))
                have hlen10 : Hid ((bitsN (pvF (l.take k) * 10)).length ≤ 40000) := Lib.hid (Nat.le_trans (len_mul hlen.out (show (bitsN 10).length ≤ 4 by decide)) (by omega))
                obtain ⟨V, hV⟩ : ∃ V, pvF (l.take k) = V := ⟨_, rfl⟩
                rw [hV] at HA hst hlen hlen10
                have w1 : IntKind.u8.wrap (d : Int) = (d : Int) := IntWalk.u8_in _ (by omega)
                have w2 : IntKind.i64.wrap (d : Int) = (d : Int) := IntWalk.i64_in _ (by omega)
                have SM : Hid (∀ w, Calls Tryd.prog 58 #[.int .i64 10] w fun e w' => ∃ v', e = .returned v' ∧ BitAt w' v' (bitsN 10) ∧ Below w.heap.size w w') := Lib.hid (fun w => small_any 10 w (by omega))
                have SD : Hid (∀ w, Calls Tryd.prog 58 #[.int .i64 d] w fun e w' => ∃ v', e = .returned v' ∧ BitAt w' v' (bitsN d) ∧ Below w.heap.size w w') := Lib.hid (fun w => small_any d w (by omega))
                clear hdd hV h48 h57
                go_wp2_with fail
                have hAd : Hid (BitAt wr.drew u4 (bitsN V)) := Lib.hid (HA.out.keep (Below.refl _ _).drew)
                have hBd : Below w.heap.size w wr.drew := hbel.drew
                go_region_with (first
                  | (go_at_call 58; ((with_reducible refine (SM.out _).mono ?_); rintro e w4 ⟨v4, rfl, hv4, hb4⟩; have hA4 := hAd.out.keep hb4; have hB4 := bel2' hBd hb4))
                  | (go_at_call 49; ((with_reducible refine (rmul_b _ _ V 10 _ hA4 hv4 (Nat.le_trans hlen.out (by omega)) (by decide)).mono ?_); rintro e w5 ⟨v5, rfl, hv5, hb5⟩; have hB5 := bel2' hB4 hb5))
                  | (go_at_call 58; ((with_reducible refine (SD.out _).mono ?_); rintro e w6 ⟨v6, rfl, hv6, hb6⟩; have h56 := hv5.keep hb6; have hB6 := bel2' hB5 hb6))
                  | (go_at_call 50; ((with_reducible refine (radd_s _ _ _ d _ h56 hv6 hlen10 hd9).mono ?_); rintro e w7 ⟨v7, rfl, hv7, hb7⟩; have hB7 := bel2' hB6 hb7)))
                all_goals
                  rw [← hst.out] at hv7
                  go_wp2_with fail
                  go_roundw
                  case rel => exact ⟨k + 1, by omega, by go_num, hv7, hdt, hB7⟩
                  case measure => simp [intOf] <;> omega
          · obtain rfl : k = s.size := by omega
            have hV : Hid (pvF (l.take s.size) = pvF l) := Lib.hid (by rw [HLL.out, List.take_length])
            have hG : Hid (numB l = true) := Lib.hid (HGOOD.out (by have := hI.out; rw [HLL.out] at this; exact this))
            go_wp2_with fail
            go_ret2
            exact ReadRet.yes hG.out (by rw [← hV.out]; exact HA.out) hbel

end Go.Proofs.YtcbocdkpdedogaaDoor
