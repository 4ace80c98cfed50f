import Derived.Test.YteobjelenfjifaaDoorDj
import Derived.Test.YteobjelenfjifaaDoorVb
import Derived.Test.YteobjelenfjifaaDoorDk0
import Derived.Test.YteobjelenfjifaaDoorSh
namespace Go.Proofs.YteobjelenfjifaaDoor
open Go.RowKit Go.Proofs.Kit Go.Proofs.Nums

theorem lz_any (x s : Nat) (w : World) (hx : x < 4294967296) (hs : (32 - (Lib.bitLen x : Int)) = (s : Int)) :
    Calls Tryd.prog 52 #[.int .u32 x] w fun e w' => e = .returned (.int .i64 s) ∧ w = w' :=
  (Tryd.bits_LeadingZeros32 (x : Int) w (by omega) (by omega)).mono fun e w' ⟨h1, h2⟩ => ⟨by rw [h1, ← hs]; rfl, h2.symm⟩

theorem NatAt.cellAt {w : World} {p : Option Addr} {c n : Nat} {l : List Nat} (h : NatAt w (.slice p n c) l) (j : Nat) (hj : j < l.length) :
    ∃ b off, p = some ⟨b, off, none⟩ ∧ l.length ≤ c ∧ c ≤ 9223372036854775807 ∧ w.cell? ⟨b, off + j, none⟩ = some (.int .u32 ((nth l j : Nat) : Int)) := by
  rcases h.cases with ⟨h1, _⟩ | ⟨_, b, off, k, hv, h2, h3, _, hc⟩
  · rw [h1] at hj; simp at hj
  · simp only [Value.slice.injEq] at hv
    obtain ⟨rfl, _, rfl⟩ := hv
    exact ⟨b, off, rfl, h2, h3, hc j hj⟩

theorem ob_ne {v v' : Value} {a g : Nat} (h : v'.ownBlock = none ∨ v'.ownBlock = v.ownBlock) (h1 : v.ownBlock = some a) (h2 : a ≠ g) : v'.ownBlock ≠ some g := by
  rcases h with h | h
  · rw [h]; simp
  · rw [h, h1]; intro e; exact h2 (Option.some.inj e)

theorem div_zero {va vb : Value} {n L M : Nat} {w : World} (ha : Num w va n L) (hb : Num w vb 0 M) :
    Calls Tryd.prog 35 #[va, vb] w fun e w' => e = .returned (.tuple #[.slice none 0 0, .slice none 0 0, .bool false]) ∧ w = w' := by
  obtain ⟨a, h1, rfl, h3⟩ := ha
  obtain ⟨b, k1, k2, k3⟩ := hb
  have CA := Lib.hid (trim_any va a w h1)
  have cb := trim_any vb b w k1
  rw [k2, limbs_zero] at cb
  have CB := Lib.hid cb
  clear h1 h3 k1 k2 k3 cb
  go_enter Tryd.func35, Tryd.ntmps35
  go_wp2_with (first
    | (go_at_call 40; ((with_reducible refine CA.out.mono ?_); rintro e w1 ⟨v1, rfl, hv1, rfl⟩))
    | (go_at_call 40; ((with_reducible refine CB.out.mono ?_); rintro e w2 ⟨v2, rfl, hv2, rfl⟩; obtain ⟨p2, c2, rfl⟩ := hv2.shape; clear hv2)))
  go_ret3
  exact ⟨rfl, rfl⟩

/-- What Div hands back where the divisor is not 0. -/
def DivRet (n m L M : Nat) (w : World) (e : Ending) (w' : World) : Prop := ∃ vq vr, e = .returned (.tuple #[vq, vr, .bool true]) ∧ Nrm w' vq (n / m) L ∧ Nrm w' vr (n % m) M ∧ Below w.heap.size w w'

set_option maxHeartbeats 2000000 in
theorem div_less {va vb : Value} {n m L M : Nat} {w : World} (ha : Num w va n L) (hb : Num w vb m M) (hL : L ≤ 1000000) (hM : M ≤ 1000000) (hnm : n < m) :
    Calls Tryd.prog 35 #[va, vb] w (DivRet n m L M w) := by
  have hnM : n < 4294967296 ^ M := Nat.lt_trans hnm hb.lt
  have hq : n / m = 0 := Nat.div_eq_of_lt hnm
  have hr : n % m = n := Nat.mod_eq_of_lt hnm
  obtain ⟨a, h1, hn, h3⟩ := ha
  obtain ⟨b, k1, hm, k3⟩ := hb
  have ca := trim_any va a w h1
  have cb := trim_any vb b w k1
  rw [hn] at ca
  rw [hm] at cb
  have lx := limbs_len_le (val a) a.length (val_lt a h1.2)
  have ly := limbs_len_le (val b) b.length (val_lt b k1.2)
  rw [hn] at lx
  rw [hm] at ly
  have hpos : 0 < (limbs m).length := List.length_pos_iff.2 fun h => by have := limbs_eq_nil.1 h; omega
  have CM : Hid (∀ v1 v2 w, NatAt w v1 (limbs n) → NatAt w v2 (limbs m) → Calls Tryd.prog 27 #[v1, v2] w fun e w' => e = .returned (.int .i64 (-1)) ∧ Below w.heap.size w w') := Lib.hid (fun v1 v2 w h h' => by
    have := cmp_any v1 v2 _ _ w h h' (by omega) (by omega)
    rw [val_limbs, val_limbs, cmpN_lt hnm] at this; exact this)
  have CL : Hid (∀ v w, NatAt w v (limbs n) → Calls Tryd.prog 42 #[v] w fun e w' => ∃ v', e = .returned v' ∧ NatAt w' v' (limbs n) ∧ Below w.heap.size w w') := Lib.hid (fun v w h => clone_any v _ w h (by omega))
  have CA := Lib.hid ca
  have CB := Lib.hid cb
  have HF : Hid (n / m = 0 ∧ n % m = n ∧ n < 4294967296 ^ M ∧ 0 < 4294967296 ^ L) := Lib.hid ⟨hq, hr, hnM, Nat.pow_pos (by omega)⟩
  have hzz : (((limbs m).length : Int) == 0) = false := by rw [beq_eq_false_iff_ne]; omega
  clear ca cb h1 k1 hn hm h3 k3 hq hr hnM hnm lx ly
  go_enter Tryd.func35, Tryd.ntmps35
  go_wp2_with (first
    | (go_at_call 40; ((with_reducible refine CA.out.mono ?_); rintro e w1 ⟨v1, rfl, hv1, rfl⟩))
    | (go_at_call 40; ((with_reducible refine CB.out.mono ?_); rintro e w2 ⟨v2, rfl, hv2, rfl⟩; obtain ⟨p2, c2, rfl⟩ := hv2.shape))
    | (go_at_call 27; ((with_reducible refine (CM.out _ _ _ hv1 hv2).mono ?_); rintro e w3 ⟨rfl, hb3⟩))
    | (go_at_call 42; ((with_reducible refine (CL.out _ _ (hv1.keep hb3)).mono ?_); rintro e w4 ⟨v4, rfl, hv4, hb4⟩)))
  go_ret3
  obtain ⟨f1, f2, f3, f4⟩ := HF.out
  refine ⟨_, _, rfl, ?_, ?_, bel2' hb3 hb4⟩
  · rw [f1]; exact ⟨NatAt.nil _, f4⟩
  · rw [f2]; exact ⟨hv4, f3⟩

end Go.Proofs.YteobjelenfjifaaDoor
