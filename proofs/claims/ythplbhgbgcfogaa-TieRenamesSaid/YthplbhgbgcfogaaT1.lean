/- Fractions in new memory: Gcd, Limbs, Fraction of the reference; To of the reference. -/
import Derived.Test.YthplbhgbgcfogaaT0
import Derived.Test.YthplbhgbgcfogaaR10
import Derived.Deep.RegionHeld3
namespace Go.Proofs.Ythplbhgbgcfogaa
open Go.RowKit Go.Proofs.Kit Go.Proofs.Nums

/-- The limbs of a Ratio lie in no block below B. -/
def FreshR (B : Nat) : Value → Prop
  | .agg #[_, vn, vd] => Fresh B vn ∧ Fresh B vd
  | _ => False
/-- A call that hands back a Ratio in normal form, in new memory. -/
def GivesF (q : Q) (L : Nat) (w : World) (e : Ending) (w' : World) : Prop := ∃ p l k p' l' k', e = .returned (.agg #[.bool q.neg, .slice p l k, .slice p' l' k']) ∧ RatN w' (.agg #[.bool q.neg, .slice p l k, .slice p' l' k']) q L ∧ Fresh w.heap.size (.slice p l k) ∧ Fresh w.heap.size (.slice p' l' k') ∧ Below w.heap.size w w'

set_option maxHeartbeats 2000000 in
theorem gcd_c (a b : Nat) (ha : a ≤ 1000000) (hb : b ≤ 1000000) (w : World) :
    Calls Try.prog 59 #[.int .i64 a, .int .i64 b] w fun e w' => e = .returned (.int .i64 (Nat.gcd a b : Nat)) ∧ Below w.heap.size w w' := by
  go_enter Try.func59, Try.ntmps59
  go_wp2_with fail
  go_loopw [0, 1] (fun av bv wr => ∃ x y : Nat, x ≤ 1000000 ∧ y ≤ 1000000 ∧ av = .int .i64 x ∧ bv = .int .i64 y ∧ Below w.heap.size w wr ∧ Hid (Nat.gcd x y = Nat.gcd a b)) (fun _ bv _ => (intOf bv).toNat)
  case atStart => exact ⟨a, b, ha, hb, rfl, rfl, Below.refl _ _, Lib.hid rfl⟩
  case round =>
    obtain ⟨x, y, hx, hy, rfl, rfl, hbel, hP⟩ := hrel
    by_cases h0 : 0 < y
    · have hlt : x % y < y := Nat.mod_lt _ h0
      have hm : (x : Int).tmod (y : Int) = ((x % y : Nat) : Int) := by
        rw [Int.tmod_eq_emod_of_nonneg (by omega)]
        exact (Int.natCast_emod x y).symm
      obtain ⟨r, hr⟩ : ∃ r, x % y = r := ⟨_, rfl⟩
      rw [hr] at hm hlt
      have HG : Hid (Nat.gcd y r = Nat.gcd a b) := Lib.hid (by rw [← hr, ← hP.out, Nat.gcd_comm x y, Nat.gcd_rec y x, Nat.gcd_comm])
      have z1 : ¬ (y : Int) = 0 := by omega
      have z2 : ((y : Int) == 0) = false := by rw [beq_eq_false_iff_ne]; omega
      have z3 : ¬ y = 0 := by omega
      clear hr
      go_wp2_with fail
      go_region
      all_goals go_wp2_with fail
      all_goals go_roundw
      case rel => exact ⟨y, r, hy, by omega, rfl, rfl, hbel.drew, HG⟩
      case measure => simp [intOf] <;> omega
    · obtain rfl : y = 0 := by omega
      have e : Hid (x = Nat.gcd a b) := Lib.hid (by rw [← hP.out, Nat.gcd_zero_right])
      go_wp2_with fail
      go_ret
      exact ⟨by rw [← e.out]; rfl, hbel⟩

set_option maxHeartbeats 2000000 in
theorem limbs_f (n : Nat) (hn : n < 4294967296) (w : World) :
    Calls Try.prog 60 #[.int .i64 n] w fun e w' => ∃ p l k, e = .returned (.slice p l k) ∧ Nrm w' (.slice p l k) n 2 ∧ Fresh w.heap.size (.slice p l k) ∧ Below w.heap.size w w' := by
  go_enter Try.func60, Try.ntmps60
  go_wp2_with fail
  go_loopw [3, 4] (fun ov xv wr => ∃ m k : Nat, ∃ o : List Nat, m ≤ n ∧ k ≤ 1 ∧ (m ≠ 0 → k = 0) ∧ xv = .int .u64 m ∧ wr.ownsRow w.heap.size 74 1 ov k (o.map limbV) ∧ Below w.heap.size w wr ∧ Hid (limbs n = o ++ limbs m)) (fun _ xv _ => (intOf xv).toNat)
  case atStart => exact ⟨n, 0, [], Nat.le_refl _, by omega, fun _ => rfl, rfl, World.ownsRow_nil _ _ _ _, Below.refl _ _, Lib.hid rfl⟩
  case round =>
    obtain ⟨m, k, o, hm, hk, hk0, rfl, hown, hbel, hP⟩ := hrel
    by_cases h0 : 0 < m
    · have hkk := hk0 (by omega)
      have hml : m < 4294967296 := by omega
      have hm2 : m % 4294967296 = m := Nat.mod_eq_of_lt hml
      have hm3 : m / 4294967296 = 0 := Nat.div_eq_of_lt hml
      have HS : Hid (limbs n = (o ++ [m]) ++ limbs 0) := Lib.hid (by rw [hP.out, limbs_pos m (by omega), hm2, hm3, List.append_assoc]; rfl)
      clear hm2 hm3
      go_wp2_with (at_builtin; go_must (refine append_one er41 rfl rfl hown rfl rfl rfl (by simp [Value.oneCell']) (by omega) (by omega) hbel.size ?_); intro v' w1 hown1 _ hb1 hne1)
      go_roundw
      case rel =>
        refine ⟨0, k + 1, o ++ [m], by omega, by omega, fun h => absurd rfl h, by go_num, ?_, hbel.trans hb1, HS⟩
        rw [List.map_append]
        exact hown1
      case measure => simp [intOf] <;> omega
    · obtain rfl : m = 0 := by omega
      have hE : Hid (o = limbs n) := Lib.hid (by rw [hP.out, limbs_zero, List.append_nil])
      have HR := Lib.hid (RowAt.owned hown)
      have HF := Lib.hid (Fresh.owned hown)
      clear hown
      go_wp2_with fail
      go_ret
      have g : NatAt _ _ (limbs n) := ⟨by rw [← hE.out]; exact HR.out, limbs_lim n⟩
      obtain ⟨p, k2, e2⟩ := g.shape
      subst e2
      exact ⟨_, _, _, rfl, ⟨g, Nat.lt_trans hn (by decide)⟩, HF.out, hbel⟩

set_option maxRecDepth 100000 in
set_option maxHeartbeats 4000000 in
theorem fraction_f (a b : Nat) (hb : 0 < b) (ha2 : a ≤ 1000000) (hb2 : b ≤ 1000000) (w : World) :
    Calls Try.prog 46 #[.int .i64 a, .int .i64 b] w (GivesF (Q.mk' false a b) 2 w) := by
  have hq : Q.mk' false a b = ⟨false, a / Nat.gcd a b, b / Nat.gcd a b⟩ := by
    rcases Nat.eq_zero_or_pos a with h0 | ha
    · subst h0
      rw [Q.mk'_zero (.inl rfl), Nat.gcd_zero_left, Nat.zero_div, Nat.div_self hb]
    · exact Q.mk'_pos ha hb
  have hg := Nat.gcd_pos_of_pos_right a hb
  have hgle : Nat.gcd a b ≤ 1000000 := Nat.le_trans (Nat.le_of_dvd hb (Nat.gcd_dvd_right a b)) hb2
  have GC : Hid (∀ w, Calls Try.prog 59 #[.int .i64 a, .int .i64 b] w fun e w' => e = .returned (.int .i64 (Nat.gcd a b : Nat)) ∧ Below w.heap.size w w') := Lib.hid (fun w => gcd_c a b ha2 hb2 w)
  rw [hq]
  obtain ⟨g, hgg⟩ : ∃ g, Nat.gcd a b = g := ⟨_, rfl⟩
  rw [hgg] at GC hg hgle ⊢
  have d1 : (a : Int).tdiv (g : Int) = ((a / g : Nat) : Int) := by
    rw [Int.tdiv_eq_ediv_of_nonneg (by omega)]; exact (Int.natCast_ediv a g).symm
  have d2 : (b : Int).tdiv (g : Int) = ((b / g : Nat) : Int) := by
    rw [Int.tdiv_eq_ediv_of_nonneg (by omega)]; exact (Int.natCast_ediv b g).symm
  have k1 : a / g ≤ 1000000 := Nat.le_trans (Nat.div_le_self a g) ha2
  have k2 : b / g ≤ 1000000 := Nat.le_trans (Nat.div_le_self b g) hb2
  obtain ⟨x, hx⟩ : ∃ x, a / g = x := ⟨_, rfl⟩
  obtain ⟨y, hy⟩ : ∃ y, b / g = y := ⟨_, rfl⟩
  rw [hx] at d1 k1 ⊢
  rw [hy] at d2 k2 ⊢
  have LX := Lib.hid (fun w => limbs_f x (by omega) w)
  have LY := Lib.hid (fun w => limbs_f y (by omega) w)
  have z1 : ¬ (g : Int) = 0 := by omega
  have z2 : ((g : Int) == 0) = false := by rw [beq_eq_false_iff_ne]; omega
  have z3 : ¬ g = 0 := by omega
  have u1 : IntKind.i64.wrap (x : Int) = (x : Int) := w64 (by omega) (by omega)
  have u2 : IntKind.i64.wrap (y : Int) = (y : Int) := w64 (by omega) (by omega)
  clear hq hgg hx hy hg
  have B0 := Lib.hid (Blk.new w #[.bool false, .slice none 0 0, .slice none 0 0] 43)
  have hBd : Below w.heap.size w (w.alloc (.cells #[.bool false, .slice none 0 0, .slice none 0 0] 43)) := (Below.refl _ _).alloc (Nat.le_refl _) _
  go_enter Try.func46, Try.ntmps46
  go_wp2_with (go_at_call 59; ((with_reducible refine (GC.out _).mono ?_); rintro e w1 ⟨rfl, hb1⟩; have hB1 := bel2' hBd hb1; have B1 := Lib.hid (B0.out.keep hb1)))
  go_region_held3 (fun _ => True) (first | exact trivial)
    (first
      | (go_at_call 60; ((with_reducible refine (LX.out _).mono ?_); rintro e w2 ⟨p2, l2, c2, rfl, hv2, hf2, hb2⟩; have hB2 := bel2' hB1.drew hb2; have B2 := Lib.hid (B1.out.drew.keep hb2)))
      | (go_at_call 60; ((with_reducible refine (LY.out _).mono ?_); rintro e w3 ⟨p3, l3, c3, rfl, hv3, hf3, hb3⟩; have hB3 := bel2' hB2 hb3; have B3 := Lib.hid (B2.out.keep hb3); have hv23 := hv2.keep hb3; obtain ⟨m0, m1, m2⟩ := B3.out.three; obtain ⟨t0, t1, t2⟩ := B3.out.free3)))
  all_goals
    go_wp2_with fail
    refine bodyPost_ret (v := .agg #[.bool false, .slice p2 l2 c2, .slice p3 l3 c3]) (by simp [results, Try.results46, go_sem, m0, m1, m2]) rfl ?_
    have gg := retN (q := ⟨false, x, y⟩) hB3 (Nat.le_refl _) B3.out (by simp) (by simp) (by simp) hv23 hv3
    exact ⟨_, _, _, _, _, _, rfl, gg.1, hf2.mono (Nat.le_trans (by simp) hb1.size), hf3.mono (Nat.le_trans (by simp) hB2.size), gg.2⟩

set_option maxHeartbeats 4000000 in
theorem to_f (v : Value) (b : List Bool) (w : World) (hb : BitAt w v b) (hlb : b.length ≤ 100000) :
    Calls Try.prog 40 #[v] w fun e w' => ∃ v', e = .returned v' ∧ NatAt w' v' (limbs (bval b)) ∧ Fresh w.heap.size v' ∧ Below w.heap.size w w' := by
  obtain ⟨p1, c1, rfl⟩ := hb.shape
  obtain ⟨x, hx⟩ : ∃ x, bitsN (bval b) = x := ⟨_, rfl⟩
  have hxl : x.length ≤ 100000 := by rw [← hx]; exact Nat.le_trans (bits_len_le _ _ (bval_lt b)) hlb
  have cb := rtrim_any _ b w hb (by omega)
  rw [hx] at cb
  have CB := Lib.hid cb
  have HX := Lib.hid hx
  clear hb cb hx
  go_enter Try.func40, Try.ntmps40
  go_wp2_with (first
    | (go_at_call 50; ((with_reducible refine CB.out.mono ?_); rintro e w1 ⟨v1, rfl, hv1, hb1⟩; obtain ⟨p1, c1, rfl⟩ := hv1.shape))
    | (at_make; go_must (refine make_any er41 rfl rfl rfl rfl (by omega) (by omega) (by omega) ?_); intro w3 hown3 hb3))
  obtain ⟨n, hn⟩ : ∃ n, (x.length + 31) / 32 = n := ⟨_, rfl⟩
  rw [show (((x.length : Int) + 31) / 32).toNat = n by omega] at *
  have hown := OwnNat.made hown3
  have V1 := Lib.hid hv1
  clear hv1 CB hown3
  go_loopw [4] (fun i wr => ∃ k : Nat, ∃ o : List Nat, k ≤ x.length ∧ i = .int .i64 k ∧ OwnNat wr w1.heap.size w1.heap.size n n o ∧ Below w1.heap.size w1 wr ∧
      Hid (val o = bval (x.take k))) (fun i _ => x.length - (intOf i).toNat)
  case atStart => exact ⟨0, _, by omega, rfl, hown, hb3, Lib.hid (by rw [val_zeros]; simp [bval])⟩
  case round =>
    obtain ⟨k, o, hk, rfl, hO, hbel, hP⟩ := hrel
    by_cases hlt : k < x.length
    · rcases (V1.out.keep hbel).cases with ⟨hx0, _⟩ | ⟨_, b1, o1, k1, hv1, hk1, hm1, hbb, hcell1⟩
      · rw [hx0] at hlt; simp at hlt
      simp only [Value.slice.injEq] at hv1
      obtain ⟨rfl, _, rfl⟩ := hv1
      have q1 := hcell1 k hlt
      clear hcell1
      cases hbit : bnth x k
      · rw [hbit] at q1
        have HO := Lib.hid hO
        clear hO
        go_wp2_with fail
        go_roundw
        case rel => exact ⟨k + 1, o, by omega, by go_num, HO.out, hbel, Lib.hid (to_skip hbit hP.out)⟩
        case measure => simp [intOf] <;> omega
      · rw [hbit] at q1
        have hlen := hO.1
        have hlt1 := to_lt (o := o) (x := x) (i := k) (by omega) hP.out
        have hlt2 := hO.2.1.nth (k / 32)
        have hp := pow_lt32 (r := k % 32) (by omega)
        have hlim := to_lim hlt1 (r := k % 32) (by omega)
        have hor := or_add hlt1
        have hcell := hO.cell (j := k / 32) (by omega)
        have hfree := hO.free (k / 32)
        have hput := hO.put (k / 32) (nth o (k / 32) + 2 ^ (k % 32)) hlim
        have HS := Lib.hid (to_step (o := o) (x := x) (i := k) (by omega) hbit hP.out)
        have HO := Lib.hid hO
        clear hO
        obtain ⟨q, hq⟩ : ∃ q, k / 32 = q := ⟨_, rfl⟩
        obtain ⟨r, hr⟩ : ∃ r, k % 32 = r := ⟨_, rfl⟩
        rw [hq] at hcell hfree
        go_wp2_with fail
        subst hq hr
        have e0 : ((2 : Int) ^ (k % 32) % 4294967296) = ((2 ^ (k % 32) : Nat) : Int) := by
          rw [show ((2 : Int) ^ (k % 32)) = ((2 ^ (k % 32) : Nat) : Int) by rw [Int.natCast_pow]; rfl]
          omega
        have e1 : Go.bits BinOp.or IntKind.u32 (nth o (k / 32) : Int) ((2 : Int) ^ (k % 32) % 4294967296) = ((nth o (k / 32) + 2 ^ (k % 32) : Nat) : Int) := by
          rw [e0, or_u32 _ _ hlt2 hp, hor]
        go_roundw
        case rel =>
          rw [e1]
          exact ⟨k + 1, _, by omega, by go_num, hput.1, hbel.trans hput.2, HS⟩
        case measure => simp [intOf] <;> omega
    · obtain rfl : k = x.length := by omega
      have HE := Lib.hid (to_end (o := o) (n := bval b) hO.2.1 (by rw [HX.out, hO.1, hn]) (by rw [hP.out, List.take_length, ← HX.out, bval_bits]))
      have HO := Lib.hid hO
      clear hO
      go_wp2_with fail
      go_ret
      subst hn
      refine ⟨_, rfl, ?_, fun b hb => ?_, bel2' hb1 hbel⟩
      rotate_left
      · have e : w1.heap.size = b := by simpa [Value.ownBlock] using hb
        rw [← e]; exact hb1.size
      rw [← HE.out]
      exact HO.out.read

theorem to_nf {v : Value} {n L : Nat} {w : World} (h : BitAt w v (bitsN n)) (hL : L ≤ 1000) (hn : n < 4294967296 ^ L) :
    Calls Try.prog 40 #[v] w fun e w' => ∃ v', e = .returned v' ∧ Nrm w' v' n L ∧ Fresh w.heap.size v' ∧ Below w.heap.size w w' := by
  have hl : (bitsN n).length ≤ 32 * L := bits_len_le _ _ (by rw [base_pow] at hn; exact hn)
  refine (to_f v _ w h (by omega)).mono ?_
  rintro e w1 ⟨v1, rfl, hv1, hf1, hb1⟩
  rw [bval_bits] at hv1
  exact ⟨v1, rfl, ⟨hv1, hn⟩, hf1, hb1⟩

set_option maxHeartbeats 4000000 in
theorem rto_f {v : Value} {q : Q} {L : Nat} {w : World} (h : RAt w v q) (hL : L ≤ 1000) (h1 : q.n < 4294967296 ^ L) (h2 : q.d < 4294967296 ^ L) :
    Calls Try.prog 24 #[v] w fun e w' => ∃ v', e = .returned v' ∧ RatN w' v' q L ∧ FreshR w.heap.size v' ∧ Below w.heap.size w w' := by
  obtain ⟨p1, l1, k1, p2, l2, k2, rfl, hn, hd⟩ := h.shape
  obtain ⟨neg, n, d⟩ := q
  have FN : Hid (∀ w', Below w.heap.size w w' → Calls Try.prog 40 #[.slice p1 l1 k1] w' fun e w'' => ∃ v', e = .returned v' ∧ Nrm w'' v' n L ∧ Fresh w'.heap.size v' ∧ Below w'.heap.size w' w'') := Lib.hid (fun w' hb => to_nf (hn.keep hb) hL h1)
  have FD : Hid (∀ w', Below w.heap.size w w' → Calls Try.prog 40 #[.slice p2 l2 k2] w' fun e w'' => ∃ v', e = .returned v' ∧ Nrm w'' v' d L ∧ Fresh w'.heap.size v' ∧ Below w'.heap.size w' w'') := Lib.hid (fun w' hb => to_nf (hd.keep hb) hL h2)
  clear hn hd h h1 h2
  have b0 := ((Blk.new w #[.bool neg, .slice p1 l1 k1, .slice p2 l2 k2] 51).alloc (.cells #[.bool false, .slice none 0 0, .slice none 0 0] 43)).drew
  have b1 := (Blk.new (w.alloc (.cells #[.bool neg, .slice p1 l1 k1, .slice p2 l2 k2] 51)) #[.bool false, .slice none 0 0, .slice none 0 0] 43).drew
  rw [World.size_alloc] at b1
  have hBd : Below w.heap.size w ((w.alloc (.cells #[.bool neg, .slice p1 l1 k1, .slice p2 l2 k2] 51)).alloc (.cells #[.bool false, .slice none 0 0, .slice none 0 0] 43)).drew := (((Below.refl _ _).alloc (Nat.le_refl _) _).alloc (by simp) _).drew
  go_enter Try.func24, Try.ntmps24
  go_wp2_with fail
  revert b0 b1 hBd
  generalize ((w.alloc (.cells #[.bool neg, .slice p1 l1 k1, .slice p2 l2 k2] 51)).alloc (.cells #[.bool false, .slice none 0 0, .slice none 0 0] 43)) = W
  intro b0 b1 hBd
  have B0 := Lib.hid b0
  have B1 := Lib.hid b1
  obtain ⟨c0, c1, c2⟩ := b0.three
  clear b0 b1
  go_region_with (first
    | (go_at_call 40; ((with_reducible refine (FN.out _ hBd).mono ?_); rintro e w3 ⟨v3, rfl, hv3, hf3, hb3⟩; have hB3 := bel2' hBd hb3; have B03 := Lib.hid (B0.out.keep hb3); have B13 := Lib.hid (B1.out.keep hb3); obtain ⟨d0, d1, d2⟩ := B03.out.three))
    | (go_at_call 40; ((with_reducible refine (FD.out _ hB3).mono ?_); rintro e w4 ⟨v4, rfl, hv4, hf4, hb4⟩; have hB4 := bel2' hB3 hb4; have B04 := Lib.hid (B03.out.keep hb4); have B14 := Lib.hid (B13.out.keep hb4); obtain ⟨e0, e1, e2⟩ := B04.out.three; have hv34 := hv3.keep hb4; obtain ⟨x1, y1, z1, rfl⟩ := hv34.shape; obtain ⟨x2, y2, z2, rfl⟩ := hv4.shape; obtain ⟨k0, k1', k2'⟩ := B14.out.three; obtain ⟨f0, f1, f2⟩ := B14.out.free3)))
  all_goals
    go_wp2_with fail
    refine bodyPost_ret (v := .agg #[.bool neg, .slice x1 y1 z1, .slice x2 y2 z2]) (by simp [results, Try.results24, go_sem, k0, k1', k2']) rfl ?_
    have gg := retN (q := ⟨neg, n, d⟩) hB4 (by omega) B14.out (by simp) (by simp) (by simp) hv34 hv4
    exact ⟨_, rfl, gg.1, ⟨hf3.mono hBd.size, hf4.mono hB3.size⟩, gg.2⟩

end Go.Proofs.Ythplbhgbgcfogaa
