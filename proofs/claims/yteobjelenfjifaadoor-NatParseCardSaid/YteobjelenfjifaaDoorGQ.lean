import Derived.Test.YteobjelenfjifaaDoorGC
import Derived.Test.YteobjelenfjifaaDoorGO
import Derived.Test.YteobjelenfjifaaDoorGT
import Derived.Test.YteobjelenfjifaaDoorGV
import Derived.Test.YteobjelenfjifaaDoorGV2
namespace Go.Proofs.YteobjelenfjifaaDoor
open Go.RowKit Go.Proofs.Kit Go.Proofs.Nums

/-- Short. -/
theorem short_any (v : Value) (l : List Nat) (m : Nat) (w : World) (h : NatAt w v l) (hm : m ≤ 1000000) :
    Calls Tryd.prog 14 #[v, .int .i64 m] w fun e w' => ∃ v', e = .returned v' ∧ NatAt w v' (l.take m) ∧ w = w' := by
  rcases h.cases with ⟨rfl, p, cap, rfl, hc2, hc3⟩ | ⟨h1, b, off, cap, rfl, hc, hmx, hb, hcell⟩
  · clear h
    cases p with
    | none =>
      obtain rfl := hc3 rfl
      go_enter Tryd.func14, Tryd.ntmps14
      go_wp2_with fail
      go_ret
      refine ⟨_, rfl, ?_, rfl⟩
      first | exact NatAt.nil w | (rw [List.take_nil]; exact NatAt.nil w)
    | some q =>
      go_enter Tryd.func14, Tryd.ntmps14
      go_wp2_with fail
      go_ret
      refine ⟨_, rfl, ?_, rfl⟩
      try rw [List.take_nil]
      exact ⟨RowAt.empty hc2 (fun h => by simp at h), Lim.nil⟩
  · have H := Lib.hid h
    clear h hcell
    by_cases hlm : l.length ≤ m
    · have e : Hid (l.take m = l) := Lib.hid (List.take_of_length_le hlm)
      go_enter Tryd.func14, Tryd.ntmps14
      go_wp2_with fail
      go_ret
      refine ⟨_, rfl, ?_, rfl⟩
      rw [e.out]
      exact H.out
    · go_enter Tryd.func14, Tryd.ntmps14
      go_wp2_with fail
      go_ret
      refine ⟨_, rfl, ⟨?_, H.out.2.take m⟩, rfl⟩
      rw [List.map_take]
      exact RowAt.take H.out.1 m (by rw [List.length_map]; omega)


end Go.Proofs.YteobjelenfjifaaDoor

namespace Go.Proofs.YteobjelenfjifaaDoor
open Go.RowKit Go.Proofs.Kit Go.Proofs.Nums

set_option maxHeartbeats 1000000 in
/-- is. -/
theorem is_any (va vb : Value) (a : List Nat) (b : List Bool) (w : World) (ha : NatAt w va a) (hb : BitAt w vb b) (hla : a.length ≤ 1000000) (hlb : b.length ≤ 100000) :
    Calls Tryd.prog 23 #[va, vb] w fun e w' => e = .returned (.bool (eqN a (limbs (bval b)))) ∧ Below w.heap.size w w' := by
  have T := Lib.hid (to_any vb b w hb hlb)
  have HA := Lib.hid ha
  have HL : Hid ((limbs (bval b)).length ≤ 1000000) := Lib.hid (by
    refine Nat.le_trans (limbs_len_le (bval b) b.length ?_) (by omega)
    refine Nat.lt_of_lt_of_le (bval_lt b) (Nat.pow_le_pow_left (by omega) _))
  clear ha hb
  go_enter Tryd.func23, Tryd.ntmps23
  go_wp2_with (first
    | (go_at_call 45; refine T.out.mono ?_; rintro e w1 ⟨v1, rfl, hv1, hb1⟩)
    | (go_at_call 19; refine (req_any _ _ _ _ _ (HA.out.keep hb1) hv1 hla HL.out).mono ?_; rintro e w2 ⟨rfl, hb2⟩))
  go_ret
  exact ⟨rfl, bel2' hb1 hb2⟩

/-- Of, by the number alone. -/
theorem of_num (n : Nat) (z : Int) (hz : (n : Int) = z) (hn : n < 18446744073709551616) (w : World) :
    Calls Tryd.prog 16 #[.int .u64 z] w fun e w' => ∃ v' l, e = .returned v' ∧ NatAt w' v' l ∧ Hid (l = limbs n ∧ l.length ≤ 2) ∧ Below w.heap.size w w' := by
  subst hz
  refine (of_any n w hn).mono ?_
  rintro e w1 ⟨v1, rfl, hv1, hb1⟩
  exact ⟨v1, _, rfl, hv1, Lib.hid ⟨rfl, limbs_len_le n 2 (by omega)⟩, hb1⟩

set_option maxHeartbeats 1000000 in
theorem awake_any (w : World) : Calls Tryd.prog 18 #[] w fun e w' => e = .returned (.bool true) ∧ Below w.heap.size w w' := by
  have O1 := Lib.hid (of_num 4294967296 4294967296 (by omega) (by omega))
  have O2 := Lib.hid (of_num 1 1 (by omega) (by omega))
  have O3 := Lib.hid (of_num 120 120 (by omega) (by omega))
  have O4 := Lib.hid (of_num 3 3 (by omega) (by omega))
  have O5 := Lib.hid (of_num 2 2 (by omega) (by omega))
  have S : Hid (∀ (va vb : Value) (a b : List Nat) (w : World), NatAt w va a → NatAt w vb b → Hid (a = limbs 4294967296 ∧ a.length ≤ 2) → Hid (b = limbs 1 ∧ b.length ≤ 2) →
      Calls Tryd.prog 21 #[va, vb] w fun e w' => (∃ v', e = .returned (.tuple #[v', .bool true]) ∧ NatAt w' v' (limbs 4294967295)) ∧ Below w.heap.size w w') := Lib.hid (by
    intro va vb a b w ha hb h1 h2
    have := sub_any va vb a b w ha hb (by have := h1.out.2; omega) (by have := h2.out.2; omega)
    rw [h1.out.1, h2.out.1, val_limbs, val_limbs] at this
    refine this.mono fun e w' ⟨h3, h4⟩ => ⟨?_, h4⟩
    unfold SubRet at h3
    rw [if_pos (by omega)] at h3
    exact h3)
  have E : Hid (∀ (va vb : Value) (w : World), NatAt w va (limbs 4294967295) → NatAt w vb [4294967295] → Calls Tryd.prog 19 #[va, vb] w fun e w' => e = .returned (.bool true) ∧ Below w.heap.size w w') := Lib.hid (by
    intro va vb w ha hb
    have := req_any va vb _ _ w ha hb (Nat.le_trans (limbs_len_le 4294967295 2 (by omega)) (by omega)) (by simp)
    have e : limbs 4294967295 = [4294967295] := by rw [limbs_pos _ (by omega)]; rfl
    rw [show eqN (limbs 4294967295) [4294967295] = true by rw [e]; unfold eqN; exact decide_eq_true rfl] at this
    exact this)
  have L : Hid (∀ w : World, NatAt (w.alloc (.cells #[.int .u32 4294967295] 60)) (.slice (some ⟨w.heap.size, 0, none⟩) 1 1) [4294967295]) := Lib.hid fun w => NatAt.lit1 w 4294967295 (by omega)
  have T : Hid (∀ (v : Value) (l : List Nat) (w : World), NatAt w v l → Hid (l = limbs 120 ∧ l.length ≤ 2) → Calls Tryd.prog 30 #[v] w fun e w' => e = .returned (.string ⟨#[49, 50, 48]⟩) ∧ Below w.heap.size w w') := Lib.hid (by
    intro v l w h1 h2
    have := text_any v l w h1 (by have := h2.out.2; omega)
    rw [h2.out.1, val_limbs, show decB 120 = [49, 50, 48] by decide] at this
    exact this)
  have C : Hid (∀ (va vb : Value) (a b : List Nat) (w : World), NatAt w va a → NatAt w vb b → Hid (a = limbs 3 ∧ a.length ≤ 2) → Hid (b = limbs 2 ∧ b.length ≤ 2) →
      Calls Tryd.prog 27 #[va, vb] w fun e w' => e = .returned (.int .i64 1) ∧ Below w.heap.size w w') := Lib.hid (by
    intro va vb a b w ha hb h1 h2
    have := cmp_any va vb a b w ha hb (by have := h1.out.2; omega) (by have := h2.out.2; omega)
    rw [h1.out.1, h2.out.1, val_limbs, val_limbs, cmpN_gt (by omega)] at this
    exact this)
  go_enter Tryd.func18, Tryd.ntmps18
  go_wp2_with (first
    | (go_at_call 16; ((with_reducible refine (O1.out _).mono ?_); rintro e w1 ⟨v1, l1, rfl, hv1, hl1, hb1⟩))
    | (go_at_call 16; ((with_reducible refine (O2.out _).mono ?_); rintro e w2 ⟨v2, l2, rfl, hv2, hl2, hb2⟩))
    | (go_at_call 21; ((refine (S.out _ _ _ _ _ (hv1.keep hb2) hv2 hl1 hl2).mono ?_); rintro e w3 ⟨⟨v3, rfl, hv3⟩, hb3⟩))
    | (go_at_call 19; ((refine (E.out _ _ _ (hv3.alloc _) (L.out w3)).mono ?_); rintro e w4 ⟨rfl, hb4⟩))
    | (go_at_call 16; ((with_reducible refine (O3.out _).mono ?_); rintro e w5 ⟨v5, l5, rfl, hv5, hl5, hb5⟩))
    | (go_at_call 30; ((refine (T.out _ _ _ hv5 hl5).mono ?_); rintro e w6 ⟨rfl, hb6⟩))
    | (go_at_call 16; ((with_reducible refine (O4.out _).mono ?_); rintro e w7 ⟨v7, l7, rfl, hv7, hl7, hb7⟩))
    | (go_at_call 16; ((with_reducible refine (O5.out _).mono ?_); rintro e w8 ⟨v8, l8, rfl, hv8, hl8, hb8⟩))
    | (go_at_call 27; ((refine (C.out _ _ _ _ _ (hv7.keep hb8) hv8 hl7 hl8).mono ?_); rintro e w9 ⟨rfl, hb9⟩)))
  go_ret
  refine ⟨rfl, ?_⟩
  exact bel2' (bel2' (bel2' (bel2' (bel2' (bel2' (bel2' (bel2' hb1 hb2) hb3) (below_on hb4)) hb5) hb6) hb7) hb8) hb9

end Go.Proofs.YteobjelenfjifaaDoor

namespace Go.Proofs.YteobjelenfjifaaDoor
open Go.RowKit Go.Proofs.Kit Go.Proofs.Nums

theorem is_n (va vb : Value) (a : List Nat) (n : Nat) (w : World) (ha : NatAt w va a) (hb : BitAt w vb (bitsN n)) (hla : a.length ≤ 1000000) (h1 : Sm n) :
    Calls Tryd.prog 23 #[va, vb] w fun e w' => e = .returned (.bool (eqN a (limbs n))) ∧ Below w.heap.size w w' := by
  have := is_any va vb a _ w ha hb hla (Nat.le_trans h1 (by omega))
  rw [bval_bits] at this; exact this


end Go.Proofs.YteobjelenfjifaaDoor

namespace Go.Proofs.YteobjelenfjifaaDoor
open Go.RowKit Go.Proofs.Kit Go.Proofs.Nums

theorem short_num {va : Value} {a : List Nat} {w : World} (ha : NatAt w va a) (k : Nat) (hk : k ≤ 1000000) :
    ∃ n, Calls Tryd.prog 14 #[va, .int .i64 k] w fun e w' => ∃ v', e = .returned v' ∧ Num w v' n k ∧ w = w' := by
  refine ⟨val (a.take k), (short_any va a k w ha hk).mono ?_⟩
  rintro e w1 ⟨v1, rfl, hv1, rfl⟩
  exact ⟨v1, rfl, Num.of hv1 (by rw [List.length_take]; omega), rfl⟩


end Go.Proofs.YteobjelenfjifaaDoor

namespace Go.Proofs.YteobjelenfjifaaDoor
open Go.RowKit Go.Proofs.Kit Go.Proofs.Nums

theorem short_at {va : Value} {a : List Nat} {w : World} (ha : NatAt w va a) (k : Nat) (hk : k ≤ 1000000) (z : Int) (hz : (k : Int) = z) :
    ∃ n, Calls Tryd.prog 14 #[va, .int .i64 z] w fun e w' => ∃ v', e = .returned v' ∧ Num w v' n k ∧ w = w' := by
  subst hz; exact short_num ha k hk

theorem is_num {va vb : Value} {n L : Nat} {w : World} (ha : Nrm w va n L) (hb : BitAt w vb (bitsN n)) (hL : L ≤ 1000) :
    Calls Tryd.prog 23 #[va, vb] w fun e w' => e = .returned (.bool true) ∧ Below w.heap.size w w' := by
  have := is_n va vb _ n w ha.1 hb (Nat.le_trans ha.len (by omega)) (Nat.le_trans (num_bits ha.num) (by omega))
  rw [eqN_self] at this; exact this


end Go.Proofs.YteobjelenfjifaaDoor
