import Derived.Test.YtcbocdkpdedogaaDoorMA
import Derived.Test.YtcbocdkpdedogaaDoorMV
import Derived.IntWalk
namespace Go.Proofs.YtcbocdkpdedogaaDoor
open Go.RowKit Go.Proofs.Kit Go.Proofs.Nums

set_option maxHeartbeats 4000000 in
theorem scale_any (v : Value) (a : List Nat) (m n : Nat) (w : World) (ha : NatAt w v a) (hla : a.length ≤ 1000000) (hm : m ≤ 1000000000) (hn : n < 4294967296) :
    Calls Tryd.prog 81 #[v, .int .u64 m, .int .u64 n] w fun e w' => ∃ v' o, e = .returned v' ∧ NatAt w' v' o ∧ Hid (val o = val a * m + n ∧ o.length ≤ a.length + 1) ∧ Below w.heap.size w w' := by
  obtain ⟨p1, c1, rfl⟩ := ha.shape
  have HA := Lib.hid ha
  have HM := Lib.hid hm
  clear ha hm
  go_enter Tryd.func81, Tryd.ntmps81
  go_wp2_with (at_make; go_must (refine make_room er23 rfl rfl rfl rfl (by omega) (by omega) (by omega) ?_); intro w3 hown3 hb3)
  go_loopw [7, 8, 19] (fun ov cv i wr => ∃ k c : Nat, ∃ o : List Nat, k ≤ a.length ∧ c < 4294967296 ∧ o.length = k ∧ i = .int .i64 k ∧ cv = .int .u64 c ∧ wr.ownsRow w.heap.size 88 1 ov k (o.map limbV) ∧ Below w.heap.size w wr ∧
      Hid (Lim o ∧ val o + 4294967296 ^ k * c = val (a.take k) * m + n)) (fun _ _ i _ => a.length - (intOf i).toNat)
  case atStart => exact ⟨0, n, [], by omega, hn, rfl, rfl, rfl, hown3, hb3, Lib.hid ⟨Lim.nil, by simp [val]⟩⟩
  case round =>
    obtain ⟨k, c, o, hk, hc, hol, rfl, rfl, hown, hbel, hP⟩ := hrel
    have HOL := Lib.hid hol
    clear hol
    by_cases hlt : k < a.length
    · rcases (HA.out.keep hbel).cases with ⟨hx0, _⟩ | ⟨_, b1, o1, k1, hv1, hk1, hm1, hbb, hcell1⟩
      · rw [hx0] at hlt; simp at hlt
      simp only [Value.slice.injEq] at hv1
      obtain ⟨rfl, _, rfl⟩ := hv1
      have q1 := hcell1 k hlt
      have hxk := HA.out.2.nth k
      clear hcell1
      obtain ⟨l1, l2⟩ := scale_lt hxk HM.out hc
      obtain ⟨xm, hxm⟩ : ∃ xm : Nat, (nth a k : Int) * (m : Int) = (xm : Int) := ⟨nth a k * m, by rw [Int.natCast_mul]⟩
      have hxm' : nth a k * m = xm := by exact_mod_cast hxm
      have HST := Lib.hid (scale_step (o := o) (a := a) (m := m) (n := n) HOL.out rfl hP.out.2)
      rw [hxm'] at l1 l2 HST
      have HLIM : Hid (Lim (o ++ [(xm + c) % 4294967296])) := Lib.hid (hP.out.1.app (Lim.cons (Nat.mod_lt _ (by omega)) Lim.nil))
      clear hxm'
      go_wp2_with (at_builtin; go_must (refine append_one er23 rfl rfl hown rfl rfl rfl (by simp [Value.oneCell']) (by omega) (by omega) hbel.size ?_); intro v' w1 hown1 _ hb1 hne1)
      go_roundw
      case rel =>
        refine ⟨k + 1, (xm + c) / 4294967296, o ++ [(xm + c) % 4294967296], by omega, l2, by rw [List.length_append, HOL.out]; rfl, by go_num, by go_num, ?_, hbel.trans hb1, Lib.hid ⟨HLIM.out, HST.out⟩⟩
        rw [List.map_append]
        exact hown1
      case measure => simp [intOf] <;> omega
    · obtain rfl : k = a.length := by omega
      have hv : Hid (val o + 4294967296 ^ a.length * c = val a * m + n) := Lib.hid (by have := hP.out.2; rw [List.take_length] at this; exact this)
      by_cases hc0 : 0 < c
      · have hL : Hid (Lim (o ++ [c])) := Lib.hid (hP.out.1.app (Lim.cons hc Lim.nil))
        have hV : Hid (val (o ++ [c]) = val a * m + n) := Lib.hid (by rw [val_snoc, HOL.out]; exact hv.out)
        go_wp2_with (at_builtin; go_must (refine append_one er23 rfl rfl hown rfl rfl rfl (by simp [Value.oneCell']) (by omega) (by omega) hbel.size ?_); intro v' w1 hown1 _ hb1 hne1)
        go_ret
        refine ⟨v', rfl, o ++ [c], ⟨RowAt.owned (n := a.length + 1) (e := 88) (base := w.heap.size) ?_, hL.out⟩, Lib.hid ⟨hV.out, by rw [List.length_append, HOL.out]; simp⟩, hbel.trans hb1⟩
        rw [List.map_append]
        exact hown1
      · obtain rfl : c = 0 := by omega
        go_wp2_with fail
        go_ret
        exact ⟨_, o, rfl, ⟨RowAt.owned hown, hP.out.1⟩, Lib.hid ⟨by have := hv.out; rw [Nat.mul_zero, Nat.add_zero] at this; exact this, by rw [HOL.out]; omega⟩, hbel⟩

end Go.Proofs.YtcbocdkpdedogaaDoor

namespace Go.Proofs.YtcbocdkpdedogaaDoor
open Go.RowKit Go.Proofs.Kit Go.Proofs.Nums

theorem byte_at (s : ByteArray) (k : Nat) (h : k < s.size) : (s[k]'h) = bat s.data.toList k := by
  rw [bat_lt (by rw [← Lib.size_eq]; exact h)]; rfl

/-- What Parse hands back. -/
def ParseRet (l : List UInt8) (w : World) (e : Ending) (w' : World) : Prop :=
  (if numB l = true then ∃ v', e = .returned (.tuple #[v', .bool true]) ∧ NatAt w' v' (limbs (pvF l)) else e = .returned (.tuple #[.slice none 0 0, .bool false])) ∧ Below w.heap.size w w'

theorem ParseRet.no {l : List UInt8} {w w' : World} {e : Ending} (h : numB l = false) (he : e = .returned (.tuple #[.slice none 0 0, .bool false])) (hb : Below w.heap.size w w') : ParseRet l w e w' := by
  unfold ParseRet; rw [if_neg (by rw [h]; decide)]; exact ⟨he, hb⟩
theorem ParseRet.yes {l : List UInt8} {w w' : World} {v : Value} (h : numB l = true) (hv : NatAt w' v (limbs (pvF l))) (hb : Below w.heap.size w w') : ParseRet l w (.returned (.tuple #[v, .bool true])) w' := by
  unfold ParseRet; rw [if_pos h]; exact ⟨⟨v, rfl, hv⟩, hb⟩

theorem numB_nil : numB [] = false := rfl
theorem numB_zero {l : List UInt8} (h0 : bat l 0 = 48) (h1 : 1 < l.length) : numB l = false := by
  unfold numB; rw [h0]; simp [h1]
theorem numB_bad {l : List UInt8} {k : Nat} (hk : k < l.length) (h : isDig (bat l k) = false) : numB l = false := by
  unfold numB; rw [not_all hk h]; simp
theorem numB_good {l : List UInt8} (h0 : 0 < l.length) (h1 : ¬ (bat l 0 = 48 ∧ 1 < l.length)) (h : DigTo l l.length) : numB l = true := by
  unfold numB
  rw [all_of_digTo h]
  have : l.isEmpty = false := by cases l with
    | nil => simp at h0
    | cons _ _ => rfl
  rw [this]
  simp
  by_cases h2 : bat l 0 = 48
  · right
    rcases Nat.lt_or_ge 1 l.length with h3 | h3
    · exact absurd ⟨h2, h3⟩ h1
    · exact h3
  · exact .inl h2

theorem p10 (p : Nat) (h : p ≤ 8) : 10 ^ p ≤ 100000000 := by
  have : 10 ^ p ≤ 10 ^ 8 := Nat.pow_le_pow_right (by omega) h
  omega

theorem p10_lt (p : Nat) (h : p < 8) : 10 ^ p ≤ 10000000 := by
  have : 10 ^ p ≤ 10 ^ 7 := Nat.pow_le_pow_right (by omega) (by omega)
  omega

/-- What Parse keeps: the limbs o of the flushed digits, the number n of the last p digits. -/
def PInv (l : List UInt8) (k p P n : Nat) (o : List Nat) : Prop := P = 10 ^ p ∧ n < P ∧ val o * P + n = pvF (l.take k) ∧ DigTo l k ∧ o.length ≤ k ∧ (k = l.length → p = 0)

theorem PInv.digit {l : List UInt8} {k p P n : Nat} {o : List Nat} (h : PInv l k p P n o) (hk : k < l.length) {x : UInt8} (hx : bat l k = x) (h1 : 48 ≤ x.toNat) (h2 : x.toNat ≤ 57) :
    10 * P = 10 ^ (p + 1) ∧ 10 * n + (x.toNat - 48) < 10 * P ∧ val o * (10 * P) + (10 * n + (x.toNat - 48)) = pvF (l.take (k + 1)) ∧ DigTo l (k + 1) := by
  obtain ⟨a1, a2, a3, a4, _, _⟩ := h
  refine ⟨by rw [a1, Nat.pow_succ]; omega, by omega, ?_, a4.succ (by rw [hx]; exact isDig_iff.2 ⟨h1, h2⟩)⟩
  rw [pvF_take l k hk, ← a3, hx, Nat.mul_left_comm]
  omega

theorem PInv.end {l : List UInt8} {p P n : Nat} {o : List Nat} (h : PInv l l.length p P n o) : val o = pvF l := by
  obtain ⟨a1, a2, a3, _, _, a6⟩ := h
  have hp := a6 rfl
  subst hp
  rw [Nat.pow_zero] at a1
  subst a1
  rw [List.take_length] at a3
  omega

set_option maxRecDepth 1000000 in
set_option maxHeartbeats 4000000 in
theorem parse_any (s : ByteArray) (w : World) (hs : s.size ≤ 100000) :
    Calls Tryd.prog 56 #[.string s] w (ParseRet s.data.toList w) := by
  by_cases h0 : s = ⟨#[]⟩
  · subst h0
    go_enter Tryd.func56, Tryd.ntmps56
    go_wp2_with fail
    go_ret2
    exact ParseRet.no rfl rfl (Below.refl _ _)
  · have hE : ¬ s.toList = [] := by
      rw [ByteArray.toList_eq]; intro h; apply h0; exact str_of h
    have hE2 : s.toList.isEmpty = false := by
      cases hh : s.toList with
      | nil => exact absurd hh hE
      | cons x l => rfl
    have hsz : 0 < s.size := by
      rcases Nat.eq_zero_or_pos s.size with h | h
      · exfalso; apply hE; rw [ByteArray.toList_eq]
        exact List.eq_nil_of_length_eq_zero (by rw [← Lib.size_eq]; exact h)
      · exact h
    obtain ⟨l, hl⟩ : ∃ l, s.data.toList = l := ⟨_, rfl⟩
    have hll : s.size = l.length := by rw [Lib.size_eq, hl]
    have HLL := Lib.hid hll
    have HBAT : Hid (∀ k (h : k < s.size), (s[k]'h) = bat l k) := Lib.hid (fun k h => by rw [byte_at, hl])
    obtain ⟨x0, hx0⟩ : ∃ x0, bat l 0 = x0 := ⟨_, rfl⟩
    have hs0 : s[0] = x0 := by rw [HBAT.out 0 hsz]; exact hx0
    rw [hl]
    clear h0 hll hl
    by_cases hC : x0 = 48 ∧ 1 < s.size
    · have hN : Hid (numB l = false) := Lib.hid (numB_zero (by rw [hx0, hC.1]) (by rw [← HLL.out]; exact hC.2))
      have h1 : 1 < s.size := hC.2
      have hb : ((x0.toNat : Int) == 48) = true := by rw [hC.1]; rfl
      clear hC hx0
      go_enter Tryd.func56, Tryd.ntmps56
      go_wp2_with fail
      go_ret2
      exact ParseRet.no hN.out rfl (Below.refl _ _)
    · have HGOOD : Hid (DigTo l l.length → numB l = true) := Lib.hid (fun h => numB_good (by rw [← HLL.out]; exact hsz) (by rw [hx0, ← HLL.out]; exact hC) h)
      have hor : (((x0.toNat : Int) == 48) = true ∧ s.size = 1) ∨ ((x0.toNat : Int) == 48) = false := by
        by_cases h : x0 = 48
        · left; refine ⟨by rw [h]; rfl, ?_⟩
          rcases Nat.lt_or_ge 1 s.size with h3 | h3
          · exact absurd ⟨h, h3⟩ hC
          · omega
        · right
          rw [beq_eq_false_iff_ne]; intro h'; apply h; exact UInt8.toNat_inj.1 (by exact_mod_cast h')
      have hor2 : (((x0.toNat : Int) == 48) = true ∧ decide ((1 : Int) < (s.size : Int)) = false) ∨ ((x0.toNat : Int) == 48) = false := by
        rcases hor with ⟨h1, h2⟩ | h1
        · left; exact ⟨h1, by rw [decide_eq_false_iff_not]; omega⟩
        · exact .inr h1
      clear hC hx0 hor
      rcases hor2 with ⟨hb, h1⟩ | hb
      all_goals
        go_enter Tryd.func56, Tryd.ntmps56
        go_wp2_with fail
        go_loopw [4, 5, 6, 22] (fun ov nv pv iv wr => ∃ k p P n : Nat, ∃ o : List Nat, k ≤ s.size ∧ p ≤ 8 ∧ P ≤ 100000000 ∧ n < P ∧ iv = .int .i64 k ∧ pv = .int .u64 P ∧ nv = .int .u64 n ∧ NatAt wr ov o ∧ Hid (PInv l k p P n o) ∧ Below w.heap.size w wr) (fun _ _ _ iv _ => s.size - (intOf iv).toNat)
        case atStart => exact ⟨0, 0, 1, 0, [], by omega, by omega, by omega, by omega, rfl, rfl, rfl, NatAt.nil _, Lib.hid ⟨rfl, by omega, by simp [val, pvF], fun j hj => absurd hj (by omega), by simp, fun _ => rfl⟩, Below.refl _ _⟩
        case round =>
          obtain ⟨k, p, P, n, o, hk, hp, hP, hn, rfl, rfl, rfl, hO, hI, hbel⟩ := hrel
          have HO := Lib.hid hO
          clear hO
          by_cases hlt : k < s.size
          · obtain ⟨x, hx⟩ : ∃ x, bat l k = x := ⟨_, rfl⟩
            have hsk : s[k] = x := by rw [HBAT.out k hlt]; exact hx
            have HX := Lib.hid hx
            clear hx
            by_cases h48 : x.toNat < 48
            · have hN : Hid (numB l = false) := Lib.hid (numB_bad (k := k) (by rw [← HLL.out]; exact hlt) (by rw [HX.out]; unfold isDig; simp; omega))
              go_wp2_with fail
              go_ret2
              exact ParseRet.no hN.out rfl hbel
            · by_cases h57 : 57 < x.toNat
              · have hN : Hid (numB l = false) := Lib.hid (numB_bad (k := k) (by rw [← HLL.out]; exact hlt) (by rw [HX.out]; unfold isDig; simp; omega))
                go_wp2_with fail
                go_ret2
                exact ParseRet.no hN.out rfl hbel
              · have hd := hI.out.digit (by rw [← HLL.out]; exact hlt) HX.out (by omega) (by omega)
                obtain ⟨d, hdd⟩ : ∃ d, x.toNat - 48 = d := ⟨_, rfl⟩
                have hdi : (x.toNat : Int) - 48 = (d : Int) := by omega
                have hd9 : d ≤ 9 := by omega
                rw [hdd] at hd
                obtain ⟨N, hNN⟩ : ∃ N, 10 * n + d = N := ⟨_, rfl⟩
                obtain ⟨Q, hQ⟩ : ∃ Q, 10 * P = Q := ⟨_, rfl⟩
                have hNi : 10 * (n : Int) + (d : Int) = (N : Int) := by omega
                have hQi : 10 * (P : Int) = (Q : Int) := by omega
                rw [hNN, hQ] at hd
                have hNQ : N < Q := hd.2.1
                have hQb : Q ≤ 1000000000 := by omega
                have HD := Lib.hid hd
                have HOL : Hid (o.length ≤ 100000) := Lib.hid (Nat.le_trans hI.out.2.2.2.2.1 (by omega))
                have SC := Lib.hid (scale_any _ o Q N wr HO.out (Nat.le_trans HOL.out (by omega)) hQb (by omega))
                have HKL : Hid (k + 1 ≤ l.length ∧ s.size = l.length) := Lib.hid ⟨by rw [← HLL.out]; exact hlt, HLL.out⟩
                have HOK : Hid (o.length ≤ k) := Lib.hid hI.out.2.2.2.2.1
                clear hd hdd hNN hQ
                by_cases hfl : p = 8 ∨ k + 1 = s.size
                · have ht : (((Q : Int) == 1000000000) = true) ∨ (((Q : Int) == 1000000000) = false ∧ ((k : Int) == (s.size : Int) - 1) = true) := by
                    by_cases hq : Q = 1000000000
                    · left; rw [hq]; rfl
                    · right
                      refine ⟨by rw [beq_eq_false_iff_ne]; omega, ?_⟩
                      rcases hfl with h | h
                      · exfalso; apply hq
                        have := HD.out.1
                        rw [h] at this
                        omega
                      · rw [beq_iff_eq]; omega
                  have HFL := Lib.hid hfl
                  clear hfl h48 h57 hP
                  rcases ht with ht | ⟨ht, ht2⟩
                  all_goals
                    go_wp2_with (go_at_call 81; ((with_reducible refine SC.out.mono ?_); rintro e w4 ⟨v4, o4, rfl, hv4, h4, hb4⟩))
                    go_roundw
                    case rel =>
                      refine ⟨k + 1, 0, 1, 0, o4, by omega, by omega, by omega, by omega, by go_num, rfl, rfl, hv4, Lib.hid ⟨rfl, by omega, ?_, HD.out.2.2.2, Nat.le_trans h4.out.2 (by have := HOK.out; omega), fun _ => rfl⟩, bel2' hbel hb4⟩
                      rw [h4.out.1, Nat.mul_one, Nat.add_zero]; exact HD.out.2.2.1
                    case measure => simp [intOf] <;> omega
                · have hp8 : p < 8 := by omega
                  have ht : ((Q : Int) == 1000000000) = false := by
                    rw [beq_eq_false_iff_ne]
                    have := p10_lt p hp8
                    have h2 := hI.out.1
                    omega
                  have ht2 : ((k : Int) == (s.size : Int) - 1) = false := by rw [beq_eq_false_iff_ne]; omega
                  have HQ : Hid (Q ≤ 100000000) := Lib.hid (by
                    have := p10_lt p hp8
                    have h2 := hI.out.1
                    omega)
                  have HFL := Lib.hid hfl
                  clear hfl h48 h57 hP
                  go_wp2_with fail
                  go_roundw
                  case rel =>
                    refine ⟨k + 1, p + 1, Q, N, o, by omega, by omega, HQ.out, hNQ, by go_num, rfl, rfl, HO.out, Lib.hid ⟨HD.out.1, hNQ, HD.out.2.2.1, HD.out.2.2.2, by have := HOK.out; omega, fun h => ?_⟩, hbel⟩
                    exfalso
                    apply HFL.out
                    right
                    rw [HKL.out.2]; exact h
                  case measure => simp [intOf] <;> omega
          · obtain rfl : k = s.size := by omega
            have hV : Hid (val o = pvF l) := Lib.hid (by have := hI.out; rw [HLL.out] at this; exact this.end)
            have hG : Hid (numB l = true) := Lib.hid (HGOOD.out (by have := hI.out.2.2.2.1; rw [HLL.out] at this; exact this))
            have HOL : Hid (o.length ≤ 100000) := Lib.hid (Nat.le_trans hI.out.2.2.2.2.1 (by omega))
            go_wp2_with (go_at_call 73; refine (norm_any _ _ _ HO.out (Nat.le_trans HOL.out (by omega))).mono ?_; rw [hV.out]; rintro e w4 ⟨v4, rfl, hv4, hb4⟩)
            go_ret2
            exact ParseRet.yes hG.out hv4 (bel2' hbel hb4)

end Go.Proofs.YtcbocdkpdedogaaDoor
