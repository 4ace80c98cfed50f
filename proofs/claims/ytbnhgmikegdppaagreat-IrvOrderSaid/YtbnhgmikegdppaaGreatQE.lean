/- Contracts and plain facts, part 5: GG, MR, R1, M2, M4, GD. No condition beyond those that each theorem states. -/
import Derived.Test.YtbnhgmikegdppaaGreatQD
import Derived.Test.YtbnhgmikegdppaaGreatMS
import Derived.Deep.RegionHeld3
namespace Go.Proofs.YtbnhgmikegdppaaGreat
open Go.RowKit Go.Proofs.Kit Go.Proofs.Nums

theorem lz_any (x s : Nat) (w : World) (hx : x < 4294967296) (hs : (32 - (Lib.bitLen x : Int)) = (s : Int)) :
    Calls Tryz.prog 101 #[.int .u32 x] w fun e w' => e = .returned (.int .i64 s) ∧ w = w' :=
  (Tryz.bits_LeadingZeros32 (x : Int) w (by omega) (by omega)).mono fun e w' ⟨h1, h2⟩ => ⟨by rw [h1, ← hs]; rfl, h2.symm⟩

theorem NatAt.cellAt {w : World} {p : Option Addr} {c n : Nat} {l : List Nat} (h : NatAt w (.slice p n c) l) (j : Nat) (hj : j < l.length) :
    ∃ b off, p = some ⟨b, off, none⟩ ∧ l.length ≤ c ∧ c ≤ 9223372036854775807 ∧ w.cell? ⟨b, off + j, none⟩ = some (.int .u32 ((nth l j : Nat) : Int)) := by
  rcases h.cases with ⟨h1, _⟩ | ⟨_, b, off, k, hv, h2, h3, _, hc⟩
  · rw [h1] at hj; simp at hj
  · simp only [Value.slice.injEq] at hv
    obtain ⟨rfl, _, rfl⟩ := hv
    exact ⟨b, off, rfl, h2, h3, hc j hj⟩

theorem ob_ne {v v' : Value} {a g : Nat} (h : v'.ownBlock = none ∨ v'.ownBlock = v.ownBlock) (h1 : v.ownBlock = some a) (h2 : a ≠ g) : v'.ownBlock ≠ some g := by
  rcases h with h | h
  · rw [h]; simp
  · rw [h, h1]; intro e; exact h2 (Option.some.inj e)

theorem div_zero {va vb : Value} {n L M : Nat} {w : World} (ha : Num w va n L) (hb : Num w vb 0 M) :
    Calls Tryz.prog 87 #[va, vb] w fun e w' => e = .returned (.tuple #[.slice none 0 0, .slice none 0 0, .bool false]) ∧ w = w' := by
  obtain ⟨a, h1, rfl, h3⟩ := ha
  obtain ⟨b, k1, k2, k3⟩ := hb
  have CA := Lib.hid (trim_any va a w h1)
  have cb := trim_any vb b w k1
  rw [k2, limbs_zero] at cb
  have CB := Lib.hid cb
  clear h1 h3 k1 k2 k3 cb
  go_enter Tryz.func87, Tryz.ntmps87
  go_wp2_with (first
    | (go_at_call 96; ((with_reducible refine CA.out.mono ?_); rintro e w1 ⟨v1, rfl, hv1, rfl⟩))
    | (go_at_call 96; ((with_reducible refine CB.out.mono ?_); rintro e w2 ⟨v2, rfl, hv2, rfl⟩; obtain ⟨p2, c2, rfl⟩ := hv2.shape; clear hv2)))
  go_ret3
  exact ⟨rfl, rfl⟩

/-- What Div hands back where the divisor is not 0. -/
def DivRet (n m L M : Nat) (w : World) (e : Ending) (w' : World) : Prop := ∃ vq vr, e = .returned (.tuple #[vq, vr, .bool true]) ∧ Nrm w' vq (n / m) L ∧ Nrm w' vr (n % m) M ∧ Below w.heap.size w w'

set_option maxHeartbeats 2000000 in
theorem div_less {va vb : Value} {n m L M : Nat} {w : World} (ha : Num w va n L) (hb : Num w vb m M) (hL : L ≤ 1000000) (hM : M ≤ 1000000) (hnm : n < m) :
    Calls Tryz.prog 87 #[va, vb] w (DivRet n m L M w) := by
  have hnM : n < 4294967296 ^ M := Nat.lt_trans hnm hb.lt
  have hq : n / m = 0 := Nat.div_eq_of_lt hnm
  have hr : n % m = n := Nat.mod_eq_of_lt hnm
  obtain ⟨a, h1, hn, h3⟩ := ha
  obtain ⟨b, k1, hm, k3⟩ := hb
  have ca := trim_any va a w h1
  have cb := trim_any vb b w k1
  rw [hn] at ca
  rw [hm] at cb
  have lx := limbs_len_le (val a) a.length (val_lt a h1.2)
  have ly := limbs_len_le (val b) b.length (val_lt b k1.2)
  rw [hn] at lx
  rw [hm] at ly
  have hpos : 0 < (limbs m).length := List.length_pos_iff.2 fun h => by have := limbs_eq_nil.1 h; omega
  have CM : Hid (∀ v1 v2 w, NatAt w v1 (limbs n) → NatAt w v2 (limbs m) → Calls Tryz.prog 98 #[v1, v2] w fun e w' => e = .returned (.int .i64 (-1)) ∧ Below w.heap.size w w') := Lib.hid (fun v1 v2 w h h' => by
    have := cmp_any v1 v2 _ _ w h h' (by omega) (by omega)
    rw [val_limbs, val_limbs, cmpN_lt hnm] at this; exact this)
  have CL : Hid (∀ v w, NatAt w v (limbs n) → Calls Tryz.prog 99 #[v] w fun e w' => ∃ v', e = .returned v' ∧ NatAt w' v' (limbs n) ∧ Below w.heap.size w w') := Lib.hid (fun v w h => clone_any v _ w h (by omega))
  have CA := Lib.hid ca
  have CB := Lib.hid cb
  have HF : Hid (n / m = 0 ∧ n % m = n ∧ n < 4294967296 ^ M ∧ 0 < 4294967296 ^ L) := Lib.hid ⟨hq, hr, hnM, Nat.pow_pos (by omega)⟩
  have hzz : (((limbs m).length : Int) == 0) = false := by rw [beq_eq_false_iff_ne]; omega
  clear ca cb h1 k1 hn hm h3 k3 hq hr hnM hnm lx ly
  go_enter Tryz.func87, Tryz.ntmps87
  go_wp2_with (first
    | (go_at_call 96; ((with_reducible refine CA.out.mono ?_); rintro e w1 ⟨v1, rfl, hv1, rfl⟩))
    | (go_at_call 96; ((with_reducible refine CB.out.mono ?_); rintro e w2 ⟨v2, rfl, hv2, rfl⟩; obtain ⟨p2, c2, rfl⟩ := hv2.shape))
    | (go_at_call 98; ((with_reducible refine (CM.out _ _ _ hv1 hv2).mono ?_); rintro e w3 ⟨rfl, hb3⟩))
    | (go_at_call 99; ((with_reducible refine (CL.out _ _ (hv1.keep hb3)).mono ?_); rintro e w4 ⟨v4, rfl, hv4, hb4⟩)))
  go_ret3
  obtain ⟨f1, f2, f3, f4⟩ := HF.out
  refine ⟨_, _, rfl, ?_, ?_, bel2' hb3 hb4⟩
  · rw [f1]; exact ⟨NatAt.nil _, f4⟩
  · rw [f2]; exact ⟨hv4, f3⟩

end Go.Proofs.YtbnhgmikegdppaaGreat

namespace Go.Proofs.YtbnhgmikegdppaaGreat
open Go.RowKit Go.Proofs.Kit Go.Proofs.Nums

set_option maxHeartbeats 2000000 in
theorem div_one {va vb : Value} {n m L M : Nat} {w : World} (ha : Num w va n L) (hb : Num w vb m M) (hL : L ≤ 1000000) (hnm : m ≤ n) (hm0 : 0 < m) (hm1 : m < 4294967296) :
    Calls Tryz.prog 87 #[va, vb] w (DivRet n m L M w) := by
  have hnL : n / m < 4294967296 ^ L := Nat.lt_of_le_of_lt (Nat.div_le_self _ _) ha.lt
  have hmM : n % m < 4294967296 ^ M := Nat.lt_trans (Nat.mod_lt _ hm0) hb.lt
  obtain ⟨a, h1, hn, h3⟩ := ha
  obtain ⟨b, k1, hm, k3⟩ := hb
  have ca := trim_any va a w h1
  have cb := trim_any vb b w k1
  rw [hn] at ca
  rw [hm] at cb
  have lx := limbs_len_le (val a) a.length (val_lt a h1.2)
  rw [hn] at lx
  have hlim : limbs m = [m] := by rw [limbs_pos m (by omega), Nat.mod_eq_of_lt hm1, Nat.div_eq_of_lt hm1]; rfl
  rw [hlim] at cb
  obtain ⟨c, hc⟩ : ∃ c, cmpN n m = c := ⟨_, rfl⟩
  have hc0 : 0 ≤ c := by rw [← hc]; unfold cmpN; rw [if_neg (by omega)]; split <;> omega
  have CM : Hid (∀ v1 v2 w, NatAt w v1 (limbs n) → NatAt w v2 [m] → Calls Tryz.prog 98 #[v1, v2] w fun e w' => e = .returned (.int .i64 c) ∧ Below w.heap.size w w') := Lib.hid (fun v1 v2 w h h' => by
    have := cmp_any v1 v2 _ _ w h h' (by omega) (by simp)
    rw [val_limbs, ← hlim, val_limbs, hc] at this; exact this)
  have SD : Hid (∀ v w, NatAt w v (limbs n) → Calls Tryz.prog 100 #[v, .int .u64 m] w fun e w' => ∃ v', e = .returned (.tuple #[v', .int .u64 ((n % m : Nat) : Int)]) ∧ (∃ q, NatAt w' v' q ∧ val q = n / m ∧ q.length ≤ 1000000) ∧ Below w.heap.size w w') := Lib.hid (fun v w h => by
    have := sdiv_any v _ m w h (by omega) hm0 hm1
    rw [val_limbs] at this
    exact this.mono fun e w' ⟨v', e1, ⟨q, q1, q2, q3, _⟩, e3⟩ => ⟨v', e1, ⟨q, q1, q2, by omega⟩, e3⟩)
  have NO : Hid (∀ v w q, NatAt w v q → Hid (val q = n / m ∧ q.length ≤ 1000000) → Calls Tryz.prog 88 #[v] w fun e w' => ∃ v', e = .returned v' ∧ NatAt w' v' (limbs (n / m)) ∧ Below w.heap.size w w') := Lib.hid (fun v w q h h' => by
    have := norm_any v q w h (by have := h'.out.2; omega)
    rw [h'.out.1] at this; exact this)
  obtain ⟨R, hR⟩ : ∃ R, n % m = R := ⟨_, rfl⟩
  rw [hR] at SD
  have OF : Hid (∀ w, Calls Tryz.prog 70 #[.int .u64 R] w fun e w' => ∃ v', e = .returned v' ∧ NatAt w' v' (limbs R) ∧ Below w.heap.size w w') := Lib.hid (fun w => of_any R w (by have := Nat.mod_lt n hm0; omega))
  have CA := Lib.hid ca
  have CB := Lib.hid cb
  have HF : Hid (n % m = R ∧ n / m < 4294967296 ^ L ∧ n % m < 4294967296 ^ M) := Lib.hid ⟨hR, hnL, hmM⟩
  clear ca cb h1 k1 hn hm h3 k3 hnL hmM hnm lx hR hlim hc
  go_enter Tryz.func87, Tryz.ntmps87
  go_wp2_with (first
    | (go_at_call 96; ((with_reducible refine CA.out.mono ?_); rintro e w1 ⟨v1, rfl, hv1, rfl⟩))
    | (go_at_call 96; ((with_reducible refine CB.out.mono ?_); rintro e w2 ⟨v2, rfl, hv2, rfl⟩; obtain ⟨p2, c2, rfl⟩ := hv2.shape; rw [show [m].length = 1 from rfl] at hv2))
    | (go_at_call 98; ((with_reducible refine (CM.out _ _ _ hv1 hv2).mono ?_); rintro e w3 ⟨rfl, hb3⟩; have hv2b := hv2.keep hb3; obtain ⟨b1, o1, rfl, hk1, hm1, q1⟩ := hv2b.cellAt 0 (by simp); rw [show nth [m] 0 = m from rfl, Nat.add_zero] at q1; rw [show [m].length = 1 from rfl] at hk1; clear hv2b hv2))
    | (go_at_call 100; ((with_reducible refine (SD.out _ _ (hv1.keep hb3)).mono ?_); rintro e w4 ⟨v4, rfl, ⟨q, hq1, hq2⟩, hb4⟩; have hb4' := bel2' hb3 hb4; have HQ2 := Lib.hid hq2; clear hq2))
    | (go_at_call 88; ((with_reducible refine (NO.out _ _ _ hq1 HQ2).mono ?_); rintro e w5 ⟨v5, rfl, hv5, hb5⟩; have hb5' := bel2' hb4' hb5))
    | (go_at_call 70; ((with_reducible refine (OF.out _).mono ?_); rintro e w6 ⟨v6, rfl, hv6, hb6⟩; have hb6' := bel2' hb5' hb6)))
  go_ret3
  obtain ⟨f1, f2, f3⟩ := HF.out
  exact ⟨_, _, rfl, ⟨hv5.keep hb6, f2⟩, ⟨by rw [f1]; exact hv6, f3⟩, hb6'⟩

end Go.Proofs.YtbnhgmikegdppaaGreat

namespace Go.Proofs.YtbnhgmikegdppaaGreat
open Go.RowKit Go.Proofs.Kit Go.Proofs.Nums

set_option maxHeartbeats 4000000 in
theorem div_long {va vb : Value} {n m L M : Nat} {w : World} (ha : Num w va n L) (hb : Num w vb m M) (hL : L ≤ 900000) (hM : M ≤ 1000000) (hnm : m ≤ n) (hm1 : 4294967296 ≤ m) :
    Calls Tryz.prog 87 #[va, vb] w (DivRet n m L M w) := by
  have hm0 : 0 < m := by omega
  have hnL : n / m < 4294967296 ^ L := Nat.lt_of_le_of_lt (Nat.div_le_self _ _) ha.lt
  have hmM : n % m < 4294967296 ^ M := Nat.lt_trans (Nat.mod_lt _ hm0) hb.lt
  obtain ⟨a, h1, hn, h3⟩ := ha
  obtain ⟨b, k1, hm, k3⟩ := hb
  have ca := trim_any va a w h1
  have cb := trim_any vb b w k1
  rw [hn] at ca
  rw [hm] at cb
  have lx := limbs_len_le (val a) a.length (val_lt a h1.2)
  have ly := limbs_len_le (val b) b.length (val_lt b k1.2)
  rw [hn] at lx
  rw [hm] at ly
  have hmn : (limbs m).length ≤ (limbs n).length := by
    rcases Nat.lt_or_ge (limbs n).length (limbs m).length with h | h
    · have := len_lt h; omega
    · exact h
  have hnlt := limbs_lt_pow n
  have hpow := pow_le_limbs m (by omega)
  have hlm2 : 2 ≤ (limbs m).length := by
    rcases Nat.lt_or_ge (limbs m).length 2 with h | h
    · exfalso
      have h5 := limbs_lt_pow m
      have h6 : 4294967296 ^ (limbs m).length ≤ 4294967296 ^ 1 := Nat.pow_le_pow_right (by omega) (by omega)
      omega
    · exact h
  obtain ⟨c, hc⟩ : ∃ c, cmpN n m = c := ⟨_, rfl⟩
  have hc0 : 0 ≤ c := by rw [← hc]; unfold cmpN; rw [if_neg (by omega)]; split <;> omega
  obtain ⟨x, hx⟩ : ∃ x, limbs n = x := ⟨_, rfl⟩
  obtain ⟨y, hy⟩ : ∃ y, limbs m = y := ⟨_, rfl⟩
  have hxv : val x = n := by rw [← hx, val_limbs]
  have hyv : val y = m := by rw [← hy, val_limbs]
  have hyl : Lim y := by rw [← hy]; exact limbs_lim m
  have hyn : 0 < nth y (y.length - 1) := by
    have h5 := limbs_norm m
    rw [hy] at h5
    unfold Norm at h5
    rcases Nat.eq_zero_or_pos (nth y (y.length - 1)) with h | h
    · exfalso
      apply h5
      rw [hy] at hlm2
      rw [List.getLast?_eq_getElem?, List.getElem?_eq_getElem (by omega), ← nth_lt, h]
    · exact h
  rw [hx] at ca lx hmn hnlt
  rw [hy] at cb ly hmn hlm2 hpow
  have htop := hyl.nth (y.length - 1)
  obtain ⟨s, hs, hsb, ht1, ht2⟩ := lz_bounds hyn htop
  have hzl := shift_len y hy.symm (by omega) ht2 (by omega)
  have hzt := shift_top y _ hy.symm rfl (by omega) hzl ht1
  obtain ⟨z, hz⟩ : ∃ z, limbs (m * 2 ^ s) = z := ⟨_, rfl⟩
  rw [hz] at hzl hzt
  have hzv : val z = m * 2 ^ s := by rw [← hz, val_limbs]
  have CM : Hid (∀ v1 v2 w, NatAt w v1 x → NatAt w v2 y → Calls Tryz.prog 98 #[v1, v2] w fun e w' => e = .returned (.int .i64 c) ∧ Below w.heap.size w w') := Lib.hid (fun v1 v2 w h h' => by
    have := cmp_any v1 v2 _ _ w h h' (by omega) (by omega)
    rw [hxv, hyv, hc] at this; exact this)
  have LZ := Lib.hid (fun w => lz_any (nth y (y.length - 1)) s w htop hsb)
  have LX : Hid (∀ v w, NatAt w v x → Calls Tryz.prog 102 #[v, .int .i64 s] w fun e w' => ∃ o, e = .returned (.slice (some ⟨w.heap.size, 0, none⟩) (x.length + 1) (x.length + 1)) ∧ OwnNat w' w.heap.size w.heap.size (x.length + 1) (x.length + 1) o ∧ Hid (val o = n * 2 ^ s) ∧ Below w.heap.size w w') := Lib.hid (fun v w h => by
    have := left_any v x s w h (by omega) hs
    rw [hxv] at this; exact this)
  have LY : Hid (∀ v w, NatAt w v y → Calls Tryz.prog 102 #[v, .int .i64 s] w fun e w' => ∃ v' o, e = .returned v' ∧ NatAt w' v' o ∧ Hid (val o = m * 2 ^ s) ∧ v'.ownBlock = some w.heap.size ∧ Below w.heap.size w w') := Lib.hid (fun v w h => by
    have := left_any v y s w h (by omega) hs
    rw [hyv] at this
    exact this.mono fun e w' ⟨o, e1, e2, e3, e4⟩ => ⟨_, o, e1, e2.read, e3, rfl, e4⟩)
  have TZ : Hid (∀ v o w, NatAt w v o → Hid (val o = m * 2 ^ s) → Calls Tryz.prog 96 #[v] w fun e w' => ∃ v', e = .returned v' ∧ NatAt w v' z ∧ w = w' ∧ (v'.ownBlock = none ∨ v'.ownBlock = v.ownBlock)) := Lib.hid (fun v o w h h' => by
    have := trim_at v o w h
    rw [h'.out, hz] at this; exact this)
  have LO : Hid (∀ vz o B g w, OwnNat w B g (x.length + 1) (x.length + 1) o → NatAt w vz z → Hid (vz.ownBlock ≠ some g) → B ≤ w.heap.size → Hid (val o = n * 2 ^ s) →
      Calls Tryz.prog 103 #[.slice (some ⟨g, 0, none⟩) (x.length + 1) (x.length + 1), vz] w fun e w' => ∃ v' q u', e = .returned v' ∧ NatAt w' v' q ∧ OwnNat w' B g (x.length + 1) (x.length + 1) u' ∧ Hid (val q = n / m ∧ val u' / 2 ^ s = n % m ∧ q.length ≤ 1000001) ∧ Below B w w') := Lib.hid (fun vz o B g w hO hZ hg hB hv => by
    have := long_any vz o z B g (x.length + 1) w (by rw [hO.1]; exact hO) hZ hg.out hB (by rw [hzl]; exact hlm2) (by rw [hO.1, hzl]; omega) (by rw [hO.1]; omega) hzt
      (by rw [hO.1, hzl, hzv]; exact long_start hO.2.1 hO.1 hv.out hnlt hpow (by omega) hmn)
    rw [hO.1] at this
    refine this.mono ?_
    rintro e w' ⟨v', q, u', e1, e2, e3, e4, e5⟩
    have e6 := e4.out
    rw [hv.out, hzv] at e6
    have e7 := long_end e6.1 e6.2.1
    exact ⟨v', q, u', e1, e2, e3, Lib.hid ⟨e7.1, e7.2, Nat.le_trans e6.2.2 (by omega)⟩, e5⟩)
  have NO : Hid (∀ v w q, NatAt w v q → Hid (q.length ≤ 1000001) → Calls Tryz.prog 88 #[v] w fun e w' => ∃ v', e = .returned v' ∧ NatAt w' v' (limbs (val q)) ∧ Below w.heap.size w w') := Lib.hid (fun v w q h h' => norm_any v q w h (Nat.le_trans h'.out (by omega)))
  have RI : Hid (∀ v w o, NatAt w v o → Hid (o.length = x.length + 1) → Calls Tryz.prog 104 #[v, .int .i64 s] w fun e w' => ∃ v' o', e = .returned v' ∧ NatAt w' v' o' ∧ Hid (val o' = val o / 2 ^ s ∧ o'.length = o.length) ∧ Below w.heap.size w w') := Lib.hid (fun v w o h h' => right_any v o s w h (by rw [h'.out]; omega) hs)
  have HF : Hid (n / m < 4294967296 ^ L ∧ n % m < 4294967296 ^ M ∧ x.length + 1 ≤ 1000001) := Lib.hid ⟨hnL, hmM, by omega⟩
  have CA := Lib.hid ca
  have CB := Lib.hid cb
  have hzz : ((y.length : Int) == 0) = false := by rw [beq_eq_false_iff_ne]; omega
  have hz1 : ((y.length : Int) == 1) = false := by rw [beq_eq_false_iff_ne]; omega
  have HY1 : Hid (y.length - 1 < y.length) := Lib.hid (by omega)
  obtain ⟨Y1, hY1⟩ : ∃ Y1, y.length - 1 = Y1 := ⟨_, rfl⟩
  have hY1i : (y.length : Int) - 1 = (Y1 : Int) := by omega
  have hY1l : Y1 < y.length := by omega
  rw [hY1] at LZ htop
  clear ca cb h1 k1 hn hm h3 k3 hnL hmM hnm lx hc hm1 hnlt hpow hx hy hxv hyv hyl hyn hsb ht1 ht2 hzl hzt hz hzv hY1 hmn HY1
  go_enter Tryz.func87, Tryz.ntmps87
  go_wp2_with (first
    | (go_at_call 96; ((with_reducible refine CA.out.mono ?_); rintro e w1 ⟨v1, rfl, hv1, rfl⟩))
    | (go_at_call 96; ((with_reducible refine CB.out.mono ?_); rintro e w2 ⟨v2, rfl, hv2, rfl⟩; obtain ⟨p2, c2, rfl⟩ := hv2.shape))
    | (go_at_call 98; ((with_reducible refine (CM.out _ _ _ hv1 hv2).mono ?_); rintro e w3 ⟨rfl, hb3⟩; have hv2b := hv2.keep hb3; have hv1b := hv1.keep hb3; obtain ⟨b1, o1, rfl, hk1, hm1, q1⟩ := hv2b.cellAt Y1 hY1l; clear hv1 hv2))
    | (go_at_call 101; ((with_reducible refine (LZ.out _).mono ?_); rintro e w4 ⟨rfl, rfl⟩))
    | (go_at_call 102; ((with_reducible refine (LX.out _ _ hv1b).mono ?_); rintro e w5 ⟨o5, rfl, hv5, h5, hb5⟩; have hb5' := bel2' hb3 hb5; have hv2c := hv2b.keep hb5; have hlt5 := hv5.lt; have HV5 := Lib.hid hv5; clear hv1b hv2b hv5))
    | (go_at_call 102; ((with_reducible refine (LY.out _ _ hv2c).mono ?_); rintro e w6 ⟨v6, o6, rfl, hv6, h6, hob6, hb6⟩; have hb6' := bel2' hb5' hb6; have hv5c := HV5.out.keep hb6))
    | (go_at_call 96; ((with_reducible refine (TZ.out _ _ _ hv6 h6).mono ?_); rintro e w7 ⟨v7, rfl, hv7, rfl, hob7⟩; have hne7 : Hid (v7.ownBlock ≠ some w3.heap.size) := Lib.hid (ob_ne hob7 hob6 (by omega)); have hle7 : w3.heap.size ≤ w6.heap.size := Nat.le_trans hb5.size hb6.size))
    | (go_at_call 103; ((with_reducible refine (LO.out _ _ _ _ _ hv5c hv7 hne7 hle7 h5).mono ?_); rintro e w8 ⟨v8, q8, u8, rfl, hv8, hu8, h8, hb8⟩; have hb8' := hb6'.trans (hb8.mono hb3.size); have hq8 : Hid (q8.length ≤ 1000001) := Lib.hid h8.out.2.2; have hul8 : Hid (u8.length = x.length + 1) := Lib.hid hu8.1; have hr8 := hu8.read; clear hu8))
    | (go_at_call 88; ((with_reducible refine (NO.out _ _ _ hv8 hq8).mono ?_); rintro e w9 ⟨v9, rfl, hv9, hb9⟩; have hb9' := bel2' hb8' hb9; have hr9 := hr8.keep hb9; clear hv8))
    | (go_at_call 104; ((with_reducible refine (RI.out _ _ _ hr9 hul8).mono ?_); rintro e w10 ⟨v10, o10, rfl, hv10, h10, hb10⟩; have hb10' := bel2' hb9' hb10; have hv9b := hv9.keep hb10; have hl10 : Hid (o10.length ≤ 1000001) := Lib.hid (by rw [h10.out.2, hul8.out]; exact HF.out.2.2)))
    | (go_at_call 88; ((with_reducible refine (NO.out _ _ _ hv10 hl10).mono ?_); rintro e w11 ⟨v11, rfl, hv11, hb11⟩; have hb11' := bel2' hb10' hb11)))
  go_ret3
  obtain ⟨f1, f2, f3⟩ := HF.out
  obtain ⟨g1, g2, g3⟩ := h8.out
  rw [g1] at hv9b
  rw [h10.out.1, g2] at hv11
  exact ⟨_, _, rfl, ⟨hv9b.keep hb11, f1⟩, ⟨hv11, f2⟩, hb11'⟩

end Go.Proofs.YtbnhgmikegdppaaGreat

namespace Go.Proofs.YtbnhgmikegdppaaGreat
open Go.RowKit Go.Proofs.Kit Go.Proofs.Nums

theorem div_num {va vb : Value} {n m L M : Nat} {w : World} (ha : Num w va n L) (hb : Num w vb m M) (hL : L ≤ 900000) (hM : M ≤ 900000) (hm : 0 < m) :
    Calls Tryz.prog 87 #[va, vb] w (DivRet n m L M w) := by
  rcases Nat.lt_or_ge n m with h | h
  · exact div_less ha hb (by omega) (by omega) h
  · rcases Nat.lt_or_ge m 4294967296 with h2 | h2
    · exact div_one ha hb (by omega) h hm h2
    · exact div_long ha hb hL (by omega) h h2

theorem limbs_len_pos {n : Nat} (h : 0 < n) : 0 < (limbs n).length := List.length_pos_iff.2 fun e => by have := limbs_eq_nil.1 e; omega

set_option maxHeartbeats 2000000 in
theorem gcd_num {va vb : Value} {n m L : Nat} {w : World} (ha : Num w va n L) (hb : Num w vb m L) (hL : L ≤ 900000) :
    Calls Tryz.prog 86 #[va, vb] w fun e w' => ∃ v', e = .returned v' ∧ Nrm w' v' (Nat.gcd n m) L ∧ Below w.heap.size w w' := by
  obtain ⟨G, hG⟩ : ∃ G, Nat.gcd n m = G := ⟨_, rfl⟩
  have HG := Lib.hid hG
  rw [hG]
  have HA := Lib.hid ha
  have HB := Lib.hid hb
  clear hG ha hb
  go_enter Tryz.func86, Tryz.ntmps86
  go_wp2_with (first
    | (go_at_call 88; ((with_reducible refine (norm_num HA.out (by omega)).mono ?_); rintro e w1 ⟨v1, rfl, hv1, hb1⟩; have hbk := HB.out.keep hb1))
    | (go_at_call 88; ((with_reducible refine (norm_num hbk (by omega)).mono ?_); rintro e w2 ⟨v2, rfl, hv2, hb2⟩; have hb2' := bel2' hb1 hb2; have hv1b := hv1.keep hb2; clear hbk hv1)))
  go_loopw [0, 1] (fun av bv wr => ∃ x y : Nat, Nrm wr av x L ∧ Nrm wr bv y L ∧ Hid (Nat.gcd x y = G) ∧ Below w.heap.size w wr) (fun _ bv wr => limbNum wr bv)
  case atStart => exact ⟨n, m, hv1b, hv2, HG, hb2'⟩
  case round =>
    obtain ⟨x, y, hx, hy, hgc, hbel⟩ := hrel
    obtain ⟨p2, c2, rfl⟩ := hy.1.shape
    have hlen := hy.len
    by_cases h0 : 0 < y
    · have hpos := limbs_len_pos h0
      have HN : Hid (Nat.gcd y (x % y) = G) := Lib.hid (by rw [gcd_step]; exact hgc.out)
      have D := Lib.hid (div_num hx.num hy.num hL hL h0)
      have HM := Lib.hid (limbNum_eq hy.1)
      have HLT := Lib.hid (Nat.mod_lt x h0)
      have HY := Lib.hid hy
      clear hx hy h0
      go_wp2_with (go_at_call 87; ((with_reducible refine D.out.mono ?_); rintro e w4 ⟨vq, vr, rfl, hvq, hvr, hb4⟩))
      go_roundw
      case rel => exact ⟨y, x % y, HY.out.keep hb4, hvr, HN, bel2' hbel hb4⟩
      case measure => rw [HM.out, limbNum_eq hvr.1]; exact HLT.out
    · obtain rfl : y = 0 := by omega
      have HX : Hid (x = G) := Lib.hid (by rw [← hgc.out, Nat.gcd_zero_right])
      have HXX := Lib.hid hx
      have hzz : (limbs 0).length = 0 := rfl
      clear hx hy h0
      go_wp2_with fail
      go_ret
      exact ⟨_, rfl, by rw [← HX.out]; exact HXX.out, hbel⟩

theorem bits_len_limbs {n : Nat} (h : 0 < n) : (bitsN n).length = 32 * ((limbs n).length - 1) + (bitsN (nth (limbs n) ((limbs n).length - 1))).length := by
  obtain ⟨y, hy⟩ : ∃ y, limbs n = y := ⟨_, rfl⟩
  have hyl : Lim y := by rw [← hy]; exact limbs_lim n
  have hv : val y = n := by rw [← hy, val_limbs]
  have h0 : 0 < y.length := by rw [← hy]; exact limbs_len_pos h
  rw [hy]
  have h1 := top_le y h0
  have h2 := top_lt y hyl h0
  rw [hv, base_pow] at h1 h2
  obtain ⟨t, ht⟩ : ∃ t, nth y (y.length - 1) = t := ⟨_, rfl⟩
  rw [ht] at h1 h2 ⊢
  have ht0 : t ≠ 0 := by
    intro e
    have h5 := limbs_norm n
    rw [hy] at h5
    unfold Norm at h5
    apply h5
    rw [List.getLast?_eq_getElem?, List.getElem?_eq_getElem (by omega), ← nth_lt, ht, e]
  have h3 := bits_lt_pow t
  have h4 := pow_le_bits t ht0
  obtain ⟨k, hk⟩ : ∃ k, (bitsN t).length = k + 1 := ⟨(bitsN t).length - 1, by have := bits_len_pos (Nat.pos_of_ne_zero ht0); omega⟩
  rw [hk] at h3 h4 ⊢
  rw [Nat.add_sub_cancel] at h4
  obtain ⟨E, hE⟩ : ∃ E, 32 * (y.length - 1) = E := ⟨_, rfl⟩
  rw [hE] at h1 h2 ⊢
  apply Nat.le_antisymm
  · apply bits_len_le
    have h6 : 2 ^ E * (t + 1) ≤ 2 ^ E * 2 ^ (k + 1) := Nat.mul_le_mul_left _ h3
    rw [← Nat.pow_add] at h6
    omega
  · rcases Nat.lt_or_ge (bitsN n).length (E + (k + 1)) with h6 | h6
    · exfalso
      have h7 := bits_lt_pow n
      have h8 : 2 ^ (bitsN n).length ≤ 2 ^ (E + k) := Nat.pow_le_pow_right (by omega) (by omega)
      have h9 : 2 ^ E * 2 ^ k ≤ 2 ^ E * t := Nat.mul_le_mul_left _ h4
      rw [← Nat.pow_add] at h9
      omega
    · exact h6

set_option maxHeartbeats 2000000 in
theorem bits_num {va : Value} {n L : Nat} {w : World} (ha : Num w va n L) (hL : L ≤ 1000000) :
    Calls Tryz.prog 84 #[va] w fun e w' => e = .returned (.int .i64 ((bitsN n).length : Nat)) ∧ Below w.heap.size w w' := by
  obtain ⟨a, h1, hn, h3⟩ := ha
  have ca := trim_any va a w h1
  have lx := limbs_len_le (val a) a.length (val_lt a h1.2)
  rw [hn] at ca lx
  rcases Nat.eq_zero_or_pos n with h0 | h0
  · subst h0
    rw [limbs_zero] at ca
    have CA := Lib.hid ca
    clear h1 hn h3 ca lx
    go_enter Tryz.func84, Tryz.ntmps84
    go_wp2_with (go_at_call 96; ((with_reducible refine CA.out.mono ?_); rintro e w1 ⟨v1, rfl, hv1, rfl⟩; obtain ⟨p1, c1, rfl⟩ := hv1.shape; clear hv1))
    go_ret
    exact ⟨rfl, Below.refl _ _⟩
  · have hl := bits_len_limbs h0
    have hp := limbs_len_pos h0
    have hlim := limbs_lim n
    obtain ⟨y, hy⟩ : ∃ y, limbs n = y := ⟨_, rfl⟩
    rw [hy] at ca lx hl hp hlim
    obtain ⟨Y1, hY1⟩ : ∃ Y1, y.length - 1 = Y1 := ⟨_, rfl⟩
    rw [hY1] at hl
    have htop := hlim.nth Y1
    have hb32 := bits_len_le (nth y Y1) 32 (by omega)
    have LE : Hid (∀ w, Calls Tryz.prog 97 #[.int .u32 (nth y Y1 : Nat)] w fun e w' => e = .returned (.int .i64 ((bitsN (nth y Y1)).length : Nat)) ∧ w = w') := Lib.hid (fun w =>
      (Tryz.bits_Len32 (nth y Y1 : Int) w (by omega) (by omega)).mono fun e w' ⟨e1, e2⟩ => ⟨by rw [e1, ← bitLen_len _ htop]; rfl, e2.symm⟩)
    obtain ⟨B, hB⟩ : ∃ B, (bitsN (nth y Y1)).length = B := ⟨_, rfl⟩
    rw [hB] at LE hl hb32
    have HR : Hid ((bitsN n).length = 32 * Y1 + B) := Lib.hid hl
    have hY1i : (y.length : Int) - 1 = (Y1 : Int) := by omega
    have hY1l : Y1 < y.length := by omega
    have hYb : Y1 ≤ 1000000 := by omega
    have hzz : ((y.length : Int) == 0) = false := by rw [beq_eq_false_iff_ne]; omega
    have CA := Lib.hid ca
    clear h1 hn h3 ca hl hlim hy hB hY1 h0
    go_enter Tryz.func84, Tryz.ntmps84
    go_wp2_with (first
      | (go_at_call 96; ((with_reducible refine CA.out.mono ?_); rintro e w1 ⟨v1, rfl, hv1, rfl⟩; obtain ⟨p1, c1, rfl⟩ := hv1.shape; obtain ⟨b1, o1, rfl, hk1, hm1, q1⟩ := hv1.cellAt Y1 hY1l; clear hv1))
      | (go_at_call 97; ((with_reducible refine (LE.out _).mono ?_); rintro e w2 ⟨rfl, rfl⟩)))
    go_ret
    exact ⟨ret_val (by rw [HR.out]; go_num), Below.refl _ _⟩

end Go.Proofs.YtbnhgmikegdppaaGreat

/- Rational numbers as a sign, a numerator and a denominator. No program in sight. -/
namespace Go.Proofs.Nums

structure Q where
  neg : Bool
  n : Nat
  d : Nat

/-- The normal form. -/
def Q.mk' (neg : Bool) (n d : Nat) : Q := if n = 0 ∨ d = 0 then ⟨false, 0, 1⟩ else ⟨neg, n / Nat.gcd n d, d / Nat.gcd n d⟩

def Q.norm (q : Q) : Q := Q.mk' q.neg q.n q.d

theorem Q.mk'_zero {neg : Bool} {n d : Nat} (h : n = 0 ∨ d = 0) : Q.mk' neg n d = ⟨false, 0, 1⟩ := by unfold Q.mk'; rw [if_pos h]
theorem Q.mk'_pos {neg : Bool} {n d : Nat} (hn : 0 < n) (hd : 0 < d) : Q.mk' neg n d = ⟨neg, n / Nat.gcd n d, d / Nat.gcd n d⟩ := by unfold Q.mk'; rw [if_neg (by omega)]

/-- The sum of two signed numbers. -/
def sumS (an : Bool) (a : Nat) (bn : Bool) (b : Nat) : Bool × Nat :=
  if an = bn then (an, a + b) else if b ≤ a then (an, a - b) else (bn, b - a)

def Q.addR (a b : Q) : Q :=
  let s := sumS a.neg (a.n * b.d) b.neg (b.n * a.d)
  Q.mk' s.1 s.2 (a.d * b.d)
def Q.add (a b : Q) : Q := Q.addR a.norm b.norm
def Q.flip (a : Q) : Q := ⟨!a.neg, a.n, a.d⟩
def Q.sub (a b : Q) : Q := Q.add a b.flip
def Q.mul (a b : Q) : Q := Q.mk' (a.neg != b.neg) (a.n * b.n) (a.d * b.d)
/-- The order, by the sign of the difference. -/
def Q.cmp (a b : Q) : Int := let d := Q.sub a b; if d.neg then -1 else if d.n = 0 then 0 else 1

/-- The integer z. -/
def Q.of (z : Int) : Q := Q.mk' (decide (z < 0)) z.natAbs 1

/-- The sizes of a number's parts. -/
def Q.Sz (q : Q) (K : Nat) : Prop := (bitsN q.n).length ≤ K ∧ (bitsN q.d).length ≤ K

theorem bits_len_le' {n m : Nat} (h : m ≤ n) : (bitsN m).length ≤ (bitsN n).length := bits_len_le m _ (Nat.lt_of_le_of_lt h (bits_lt_pow n))

theorem Q.mk'_sz {neg : Bool} {n d K : Nat} (h1 : (bitsN n).length ≤ K) (h2 : (bitsN d).length ≤ K) (hK : 1 ≤ K) : (Q.mk' neg n d).Sz K := by
  unfold Q.mk' Q.Sz
  split
  · exact ⟨Nat.zero_le _, hK⟩
  · exact ⟨Nat.le_trans (bits_len_le' (Nat.div_le_self _ _)) h1, Nat.le_trans (bits_len_le' (Nat.div_le_self _ _)) h2⟩

end Go.Proofs.Nums

/- The algebra of the Ratios: normal forms, sums, products, the order. No program in sight. -/
namespace Go.Proofs.Nums

/-- The signed numerator. -/
def Q.s (q : Q) : Int := if q.neg then -(q.n : Int) else q.n
/-- In normal form. -/
def Q.Nf (q : Q) : Prop := 0 < q.d ∧ (q.n = 0 → q.neg = false) ∧ Nat.gcd q.n q.d = 1
/-- q is z / d. -/
def Q.Rep (q : Q) (z : Int) (d : Nat) : Prop := q.s * (d : Int) = z * (q.d : Int)
def sg (neg : Bool) (n : Nat) : Int := if neg then -(n : Int) else n

theorem Q.mk'_nf (neg : Bool) (n d : Nat) : (Q.mk' neg n d).Nf := by
  unfold Q.mk' Q.Nf
  split
  · exact ⟨by decide, fun _ => rfl, rfl⟩
  · rename_i h
    have hn : 0 < n := by omega
    have hd : 0 < d := by omega
    have hg := Nat.gcd_pos_of_pos_left d hn
    refine ⟨Nat.div_pos (Nat.le_of_dvd hd (Nat.gcd_dvd_right n d)) hg, fun h0 => ?_, ?_⟩
    · exfalso
      have := Nat.div_pos (Nat.le_of_dvd hn (Nat.gcd_dvd_left n d)) hg
      simp only at h0
      omega
    · show Nat.gcd (n / Nat.gcd n d) (d / Nat.gcd n d) = 1
      rw [Nat.gcd_div (Nat.gcd_dvd_left n d) (Nat.gcd_dvd_right n d), Nat.div_self hg]

theorem Q.mk'_rep (neg : Bool) (n d : Nat) (hd : 0 < d) : (Q.mk' neg n d).Rep (sg neg n) d := by
  unfold Q.mk' Q.Rep Q.s sg
  split
  · rename_i h
    have hn : n = 0 := by omega
    subst hn
    simp
  · rename_i h
    have hn : 0 < n := by omega
    obtain ⟨g, hg⟩ : ∃ g, Nat.gcd n d = g := ⟨_, rfl⟩
    rw [hg]
    obtain ⟨a, ha⟩ : g ∣ n := by rw [← hg]; exact Nat.gcd_dvd_left n d
    obtain ⟨b, hb⟩ : g ∣ d := by rw [← hg]; exact Nat.gcd_dvd_right n d
    have hg0 : 0 < g := by rw [← hg]; exact Nat.gcd_pos_of_pos_left d hn
    have e1 : n / g = a := by rw [ha, Nat.mul_div_cancel_left _ hg0]
    have e2 : d / g = b := by rw [hb, Nat.mul_div_cancel_left _ hg0]
    have hnc : (n : Int) = g * a := by rw [ha]; push_cast; rfl
    have hdc : (d : Int) = g * b := by rw [hb]; push_cast; rfl
    simp only [e1, e2]
    cases neg <;> simp <;> rw [hnc, hdc] <;> grind

/-- Two normal forms of one fraction are one. -/
theorem Q.nf_uniq {p q : Q} (hp : p.Nf) (hq : q.Nf) (h : p.s * (q.d : Int) = q.s * (p.d : Int)) : p = q := by
  obtain ⟨pn, p1, p2⟩ := p
  obtain ⟨qn, q1, q2⟩ := q
  obtain ⟨a1, a2, a3⟩ := hp
  obtain ⟨b1, b2, b3⟩ := hq
  simp only [Q.s] at *
  have habs : p1 * q2 = q1 * p2 := by
    have := congrArg Int.natAbs h
    rw [Int.natAbs_mul, Int.natAbs_mul] at this
    cases pn <;> cases qn <;> simpa using this
  have h1 : p1 ∣ q1 := by
    have : p1 ∣ q1 * p2 := ⟨q2, habs.symm⟩
    exact (Nat.Coprime.dvd_of_dvd_mul_right a3 this)
  have h2 : q1 ∣ p1 := by
    have : q1 ∣ p1 * q2 := ⟨p2, habs⟩
    exact (Nat.Coprime.dvd_of_dvd_mul_right b3 this)
  have e1 := Nat.dvd_antisymm h1 h2
  subst e1
  have e2 : p2 = q2 := by
    rcases Nat.eq_zero_or_pos p1 with h0 | h0
    · subst h0
      simp at a3 b3
      rw [a3, b3]
    · exact (Nat.eq_of_mul_eq_mul_left h0 habs).symm
  subst e2
  have e3 : pn = qn := by
    rcases Nat.eq_zero_or_pos p1 with h0 | h0
    · rw [a2 h0, b2 h0]
    · have hd : (p2 : Int) ≠ 0 := by omega
      have h4 := Int.eq_of_mul_eq_mul_right hd h
      cases pn <;> cases qn <;> simp at h4 ⊢ <;> omega
  rw [e3]

theorem Q.norm_nf (q : Q) : q.norm.Nf := Q.mk'_nf _ _ _
theorem Q.nf_norm {q : Q} (h : q.Nf) : q.norm = q := by
  refine Q.nf_uniq (Q.norm_nf q) h ?_
  exact Q.mk'_rep q.neg q.n q.d h.1

theorem Q.norm_idem (q : Q) : q.norm.norm = q.norm := Q.nf_norm (Q.norm_nf q)

/-- A normal form is known by its fraction. -/
theorem Q.eq_of_rep {p q : Q} {z t : Int} {d e : Nat} (hp : p.Nf) (hq : q.Nf) (h1 : p.Rep z d) (h2 : q.Rep t e) (hd : 0 < d) (he : 0 < e) (h : z * (e : Int) = t * (d : Int)) : p = q := by
  refine Q.nf_uniq hp hq ?_
  unfold Q.Rep at h1 h2
  have hd' : (d : Int) ≠ 0 := by omega
  have he' : (e : Int) ≠ 0 := by omega
  refine Int.eq_of_mul_eq_mul_right hd' (Int.eq_of_mul_eq_mul_right he' ?_)
  grind

theorem sg_sum (an : Bool) (a : Nat) (bn : Bool) (b : Nat) : sg (sumS an a bn b).1 (sumS an a bn b).2 = sg an a + sg bn b := by
  unfold sumS sg
  cases an <;> cases bn <;> simp <;> (first | omega | (split <;> simp <;> omega))
theorem sg_mul (an bn : Bool) (a b : Nat) : sg (an != bn) (a * b) = sg an a * sg bn b := by
  unfold sg
  cases an <;> cases bn <;> simp <;> grind
theorem sg_cast (an : Bool) (a b : Nat) : sg an (a * b) = sg an a * (b : Int) := by
  unfold sg
  cases an <;> simp <;> grind
theorem sg_flip (an : Bool) (a : Nat) : sg (!an) a = - sg an a := by
  unfold sg
  cases an <;> simp
theorem Q.s_sg (q : Q) : q.s = sg q.neg q.n := rfl

theorem Q.norm_rep (q : Q) (h : 0 < q.d) : q.norm.Rep q.s q.d := Q.mk'_rep _ _ _ h

/-- The sum of two in normal form. -/
theorem Q.addR_rep {a b : Q} (ha : 0 < a.d) (hb : 0 < b.d) : (Q.addR a b).Rep (a.s * b.d + b.s * a.d) (a.d * b.d) := by
  have := Q.mk'_rep (sumS a.neg (a.n * b.d) b.neg (b.n * a.d)).1 (sumS a.neg (a.n * b.d) b.neg (b.n * a.d)).2 (a.d * b.d) (Nat.mul_pos ha hb)
  rw [sg_sum, sg_cast, sg_cast] at this
  exact this
theorem Q.addR_nf (a b : Q) : (Q.addR a b).Nf := Q.mk'_nf _ _ _

theorem Q.mul_rep {a b : Q} (ha : 0 < a.d) (hb : 0 < b.d) : (Q.mul a b).Rep (a.s * b.s) (a.d * b.d) := by
  have := Q.mk'_rep (a.neg != b.neg) (a.n * b.n) (a.d * b.d) (Nat.mul_pos ha hb)
  rw [sg_mul] at this
  exact this
theorem Q.mul_nf (a b : Q) : (Q.mul a b).Nf := Q.mk'_nf _ _ _

theorem Q.norm_zero {q : Q} (h : q.n = 0 ∨ q.d = 0) : q.norm = ⟨false, 0, 1⟩ := Q.mk'_zero h
theorem Q.norm_d (q : Q) : 0 < q.norm.d := (Q.norm_nf q).1

/-- The product may be taken of the normal forms. -/
theorem Q.mul_norm (a b : Q) : Q.mul a b = Q.mul a.norm b.norm := by
  by_cases h : a.n = 0 ∨ a.d = 0
  · rw [Q.norm_zero h]
    unfold Q.mul
    rw [Q.mk'_zero (by rcases h with h | h <;> simp [h]), Q.mk'_zero (by simp)]
  · by_cases h2 : b.n = 0 ∨ b.d = 0
    · rw [Q.norm_zero h2]
      unfold Q.mul
      rw [Q.mk'_zero (by rcases h2 with h | h <;> simp [h]), Q.mk'_zero (by simp)]
    · have hda : 0 < a.d := by omega
      have hdb : 0 < b.d := by omega
      have r1 := Q.norm_rep a hda
      have r2 := Q.norm_rep b hdb
      refine Q.eq_of_rep (Q.mul_nf _ _) (Q.mul_nf _ _) (Q.mul_rep hda hdb) (Q.mul_rep (Q.norm_d a) (Q.norm_d b)) (Nat.mul_pos hda hdb) (Nat.mul_pos (Q.norm_d a) (Q.norm_d b)) ?_
      unfold Q.Rep at r1 r2
      push_cast
      grind

/-- The opposite of the normal form. -/
theorem Q.flip_norm (a : Q) : a.flip.norm = Q.mk' (!a.norm.neg) a.norm.n a.norm.d := by
  by_cases h : a.n = 0 ∨ a.d = 0
  · rw [Q.norm_zero h, Q.norm_zero (q := a.flip) (by simpa [Q.flip] using h)]
    rw [Q.mk'_zero (by simp)]
  · have hda : 0 < a.d := by omega
    have r1 := Q.norm_rep a hda
    refine Q.eq_of_rep (Q.norm_nf _) (Q.mk'_nf _ _ _) (Q.norm_rep a.flip hda) (Q.mk'_rep _ _ _ (Q.norm_d a)) hda (Q.norm_d a) ?_
    unfold Q.Rep at r1
    rw [sg_flip]
    have e : a.flip.s = - a.s := by rw [Q.s_sg, Q.s_sg]; exact sg_flip _ _
    rw [e, ← Q.s_sg]
    have e2 : a.flip.d = a.d := rfl
    rw [e2]
    grind

theorem Q.sub_eq (a b : Q) : Q.sub a b = Q.addR a.norm (Q.mk' (!b.norm.neg) b.norm.n b.norm.d) := by
  unfold Q.sub Q.add
  rw [Q.flip_norm]

theorem Q.s_zero {q : Q} : q.s = 0 ↔ q.n = 0 := by
  unfold Q.s
  cases q.neg <;> simp

/-- The sign of the difference. -/
theorem Q.cmp_zero {a b : Q} (h : Q.cmp a b = 0) : a.norm = b.norm := by
  unfold Q.cmp at h
  simp only at h
  have hn : (Q.sub a b).n = 0 := by
    split at h
    · simp at h
    · split at h
      · assumption
      · simp at h
  have hf : (Q.mk' (!b.norm.neg) b.norm.n b.norm.d).Nf := Q.mk'_nf _ _ _
  have r2 := Q.mk'_rep (!b.norm.neg) b.norm.n b.norm.d (Q.norm_d b)
  have r := Q.addR_rep (Q.norm_d a) hf.1
  rw [← Q.sub_eq] at r
  unfold Q.Rep at r r2
  rw [sg_flip, ← Q.s_sg] at r2
  rw [Q.s_zero.2 hn, Int.zero_mul] at r
  have hd : ((Q.sub a b).d : Int) ≠ 0 := by
    have : (Q.sub a b).Nf := Q.addR_nf _ _
    have := this.1
    omega
  have h0 : a.norm.s * ((Q.mk' (!b.norm.neg) b.norm.n b.norm.d).d : Int) + (Q.mk' (!b.norm.neg) b.norm.n b.norm.d).s * (a.norm.d : Int) = 0 := by
    rcases Int.mul_eq_zero.1 r.symm with h | h
    · exact h
    · exact absurd h hd
  refine Q.nf_uniq (Q.norm_nf a) (Q.norm_nf b) ?_
  have hfd : ((Q.mk' (!b.norm.neg) b.norm.n b.norm.d).d : Int) ≠ 0 := by have := hf.1; omega
  refine Int.eq_of_mul_eq_mul_right hfd ?_
  grind

end Go.Proofs.Nums

/- Division of Ratios, plain. -/
namespace Go.Proofs.Nums

/-- a / b over the fields. -/
def Q.divR (a b : Q) : Q := Q.mk' (a.neg != b.neg) (a.n * b.d) (a.d * b.n)
/-- a / b of the normal forms; for the divisor 0 the empty Ratio. -/
def Q.div (a b : Q) : Q := if b.norm.n = 0 then ⟨false, 0, 0⟩ else Q.divR a.norm b.norm

end Go.Proofs.Nums

namespace Go.Proofs.YtbnhgmikegdppaaGreat
open Go.RowKit Go.Proofs.Kit Go.Proofs.Nums

/-- v is a Ratio with these fields. -/
def RatAt (w : World) (v : Value) (q : Q) (L : Nat) : Prop := ∃ vn vd, v = .agg #[.bool q.neg, vn, vd] ∧ Num w vn q.n L ∧ Num w vd q.d L
/-- .. whose numbers are in normal form. -/
def RatN (w : World) (v : Value) (q : Q) (L : Nat) : Prop := ∃ vn vd, v = .agg #[.bool q.neg, vn, vd] ∧ Nrm w vn q.n L ∧ Nrm w vd q.d L

theorem Num.shape {w : World} {v : Value} {n L : Nat} (h : Num w v n L) : ∃ p l c, v = .slice p l c := by
  obtain ⟨l, h1, _, _⟩ := h
  obtain ⟨p, c, h2⟩ := h1.shape
  exact ⟨p, _, c, h2⟩
theorem Nrm.shape {w : World} {v : Value} {n L : Nat} (h : Nrm w v n L) : ∃ p l c, v = .slice p l c := h.num.shape

theorem RatAt.keep {w w' : World} {v : Value} {q : Q} {L : Nat} (h : RatAt w v q L) (hb : Below w.heap.size w w') : RatAt w' v q L := by
  obtain ⟨vn, vd, h1, h2, h3⟩ := h; exact ⟨vn, vd, h1, h2.keep hb, h3.keep hb⟩
theorem RatN.keep {w w' : World} {v : Value} {q : Q} {L : Nat} (h : RatN w v q L) (hb : Below w.heap.size w w') : RatN w' v q L := by
  obtain ⟨vn, vd, h1, h2, h3⟩ := h; exact ⟨vn, vd, h1, h2.keep hb, h3.keep hb⟩
theorem RatN.at {w : World} {v : Value} {q : Q} {L : Nat} (h : RatN w v q L) : RatAt w v q L := by
  obtain ⟨vn, vd, h1, h2, h3⟩ := h; exact ⟨vn, vd, h1, h2.num, h3.num⟩

/-- The cells of a block just laid, behind a call. -/
theorem new_cell {w w1 : World} {cs : Array Value} {T : TypeId} (hb : Below (w.alloc (.cells cs T)).heap.size (w.alloc (.cells cs T)) w1) (off : Nat) : w1.cell? ⟨w.heap.size, off, none⟩ = cs[off]? := by
  rw [hb.cell (p := ⟨w.heap.size, off, none⟩) (by simp), cell_alloc_new]
theorem new_free {w w1 : World} {cs : Array Value} {T : TypeId} (hb : Below (w.alloc (.cells cs T)).heap.size (w.alloc (.cells cs T)) w1) (off : Nat) : w1.frozen? ⟨w.heap.size, off, none⟩ = false := by
  rw [hb.frozen (p := ⟨w.heap.size, off, none⟩) (by simp)]
  have h := heap_alloc_new w (.cells cs T)
  unfold World.frozen?
  rw [h]
  simp

/-- No cell of block b is a limb. -/
def NoLimb (w : World) (b : Nat) : Prop := ∀ o x, w.cell? ⟨b, o, none⟩ ≠ some (.int .u32 x)

/-- What is read does not lie in a block that holds no limb. -/
theorem NatAt.off {w w' : World} {v : Value} {l : List Nat} {b : Nat} (h : NatAt w v l) (hh : ∀ k, k ≠ b → w'.heap[k]? = w.heap[k]?) (hn : NoLimb w b) : NatAt w' v l := by
  rcases h.cases with ⟨rfl, p, cap, rfl, h2, h3⟩ | ⟨h1, b1, off, cap, rfl, _, _, _, hc⟩
  · exact ⟨RowAt.empty h2 h3, Lim.nil⟩
  · refine NatAtSame h fun k hk => hh k ?_
    simp [Value.ownBlock] at hk
    subst hk
    intro e
    subst e
    exact hn _ _ (hc 0 h1)
theorem Num.off {w w' : World} {v : Value} {n L b : Nat} (h : Num w v n L) (hh : ∀ k, k ≠ b → w'.heap[k]? = w.heap[k]?) (hn : NoLimb w b) : Num w' v n L := by
  obtain ⟨l, h1, h2, h3⟩ := h; exact ⟨l, h1.off hh hn, h2, h3⟩
theorem Nrm.off {w w' : World} {v : Value} {n L b : Nat} (h : Nrm w v n L) (hh : ∀ k, k ≠ b → w'.heap[k]? = w.heap[k]?) (hn : NoLimb w b) : Nrm w' v n L := ⟨h.1.off hh hn, h.2⟩

/-- Three cells are written. -/
theorem heap_set3 (w : World) (b : Nat) (x y z : Value) (k : Nat) (h : k ≠ b) : (((w.setCell ⟨b, 0, none⟩ x).setCell ⟨b, 1, none⟩ y).setCell ⟨b, 2, none⟩ z).heap[k]? = w.heap[k]? := by
  rw [Below.heap_setCell _ ⟨b, 2, none⟩ z k h, Below.heap_setCell _ ⟨b, 1, none⟩ y k h, Below.heap_setCell _ ⟨b, 0, none⟩ x k h]
theorem below_set3 {B : Nat} {w0 w : World} (hb : Below B w0 w) {b : Nat} (h : B ≤ b) (x y z : Value) : Below B w0 (((w.setCell ⟨b, 0, none⟩ x).setCell ⟨b, 1, none⟩ y).setCell ⟨b, 2, none⟩ z) :=
  ((hb.setCell h x).setCell h y).setCell h z

/-- A block just laid that holds no limb, behind a call. -/
theorem noLimb_new {w w1 : World} {cs : Array Value} {T : TypeId} (hb : Below (w.alloc (.cells cs T)).heap.size (w.alloc (.cells cs T)) w1) (h : ∀ (o : Nat) (x : Int), cs[o]? ≠ some (Value.int .u32 x)) : NoLimb w1 w.heap.size := fun o x => by
  rw [new_cell hb]; exact h o x
theorem noLimb3 {a b c : Value} (ha : ∀ x, a ≠ Value.int .u32 x) (hb : ∀ x, b ≠ Value.int .u32 x) (hc : ∀ x, c ≠ Value.int .u32 x) : ∀ (o : Nat) (x : Int), (#[a, b, c] : Array Value)[o]? ≠ some (Value.int .u32 x) := by
  intro o x
  match o with
  | 0 => simpa using ha x
  | 1 => simpa using hb x
  | 2 => simpa using hc x
  | o + 3 => simp

theorem nrm_nil' (w : World) (L : Nat) : Nrm w (.slice none 0 0) 0 L := ⟨NatAt.nil w, Nat.pow_pos (by omega)⟩

set_option maxHeartbeats 1000000 in
theorem zero_any (w : World) (L : Nat) (hL : 2 ≤ L) :
    Calls Tryz.prog 85 #[] w fun e w' => ∃ v, e = .returned v ∧ RatN w' v ⟨false, 0, 1⟩ L ∧ Below w.heap.size w w' := by
  have OF : Hid (∀ w, Calls Tryz.prog 70 #[.int .u64 1] w fun e w' => ∃ v', e = .returned v' ∧ Nrm w' v' 1 L ∧ Below w.heap.size w w') := Lib.hid (fun w => nrm_of (n := 1) (by omega) hL)
  go_enter Tryz.func85, Tryz.ntmps85
  go_wp2_with (go_at_call 70; ((with_reducible refine (OF.out _).mono ?_); rintro e w1 ⟨v1, rfl, hv1, hb1⟩; obtain ⟨p1, c1', rfl⟩ := hv1.1.shape; have c0 := new_cell hb1 0; have c1 := new_cell hb1 1; have c2 := new_cell hb1 2; have f0 := new_free hb1 0; have f1 := new_free hb1 1; have f2 := new_free hb1 2; simp at c0 c1 c2))
  have HN := Lib.hid (noLimb_new hb1 (noLimb3 (by simp) (by simp) (by simp)))
  refine bodyPost_ret (v := .agg #[.bool false, .slice none 0 0, .slice p1 (limbs 1).length c1']) (by simp [results, Tryz.results85, go_sem, c0, c1, c2]) rfl ?_
  exact ⟨_, rfl, ⟨_, _, rfl, (nrm_nil' _ _).off (heap_set3 _ _ _ _ _) HN.out, hv1.off (heap_set3 _ _ _ _ _) HN.out⟩, below_set3 (below_on hb1) (Nat.le_refl _) _ _ _⟩

end Go.Proofs.YtbnhgmikegdppaaGreat

namespace Go.Proofs.YtbnhgmikegdppaaGreat
open Go.RowKit Go.Proofs.Kit Go.Proofs.Nums

theorem bits_zero_n {va : Value} {L : Nat} {w : World} (ha : Num w va 0 L) (hL : L ≤ 1000000) :
    Calls Tryz.prog 84 #[va] w fun e w' => e = .returned (.int .i64 0) ∧ Below w.heap.size w w' := bits_num ha hL
theorem bits_pos_n {va : Value} {n L : Nat} {w : World} (ha : Num w va n L) (hL : L ≤ 1000000) (hn : 0 < n) :
    Calls Tryz.prog 84 #[va] w fun e w' => ∃ k : Nat, e = .returned (.int .i64 k) ∧ ((k : Int) == 0) = false ∧ Below w.heap.size w w' :=
  (bits_num ha hL).mono fun e w' ⟨h1, h2⟩ => ⟨_, h1, by rw [beq_eq_false_iff_ne]; have := bits_len_pos hn; omega, h2⟩

theorem div_gcd {n d L : Nat} {va vg : Value} {w : World} (ha : Num w va n L) (hg : Num w vg d L) (hL : L ≤ 900000) (hd : 0 < d) :
    Calls Tryz.prog 87 #[va, vg] w fun e w' => ∃ vq vr, e = .returned (.tuple #[vq, vr, .bool true]) ∧ Nrm w' vq (n / d) L ∧ Below w.heap.size w w' :=
  (div_num ha hg hL hL hd).mono fun _ _ ⟨vq, vr, h1, h2, _, h4⟩ => ⟨vq, vr, h1, h2, h4⟩

/-- A struct of three cells is stored in a block of the call's own, and handed back. -/
theorem ret3 {W w1 : World} {L : Nat} {T : TypeId} {q : Q} {vn vd : Value} {B : Nat} (hb : Below (W.alloc (.cells #[.bool false, .slice none 0 0, .slice none 0 0] T)).heap.size (W.alloc (.cells #[.bool false, .slice none 0 0, .slice none 0 0] T)) w1)
    (hB : B ≤ W.heap.size) {w0 : World} (hw : Below B w0 W) (hn : Nrm w1 vn q.n L) (hd : Nrm w1 vd q.d L) (b : Nat) (hbb : b = W.heap.size) :
    RatN (((w1.setCell ⟨b, 0, none⟩ (.bool q.neg)).setCell ⟨b, 1, none⟩ vn).setCell ⟨b, 2, none⟩ vd) (.agg #[.bool q.neg, vn, vd]) q L ∧
    Below B w0 (((w1.setCell ⟨b, 0, none⟩ (.bool q.neg)).setCell ⟨b, 1, none⟩ vn).setCell ⟨b, 2, none⟩ vd) := by
  subst hbb
  have HN := noLimb_new hb (noLimb3 (by simp) (by simp) (by simp))
  refine ⟨⟨_, _, rfl, hn.off (heap_set3 _ _ _ _ _) HN, hd.off (heap_set3 _ _ _ _ _) HN⟩, below_set3 ?_ hB _ _ _⟩
  exact (hw.alloc hB _).trans (hb.mono (by simp; omega))

set_option maxHeartbeats 2000000 in
theorem make_num {neg : Bool} {vn vd : Value} {n d L : Nat} {w : World} (hn : Num w vn n L) (hd : Num w vd d L) (hL : L ≤ 900000) (hL2 : 2 ≤ L) :
    Calls Tryz.prog 68 #[.bool neg, vn, vd] w fun e w' => ∃ v, e = .returned v ∧ RatN w' v (Q.mk' neg n d) L ∧ Below w.heap.size w w' := by
  have Z : Hid (∀ w, Calls Tryz.prog 85 #[] w fun e w' => ∃ v, e = .returned v ∧ RatN w' v ⟨false, 0, 1⟩ L ∧ Below w.heap.size w w') := Lib.hid (fun w => zero_any w L hL2)
  have ka : ∀ {o : Obj} {v : Value} {n : Nat}, Num w v n L → Num (w.alloc o) v n L := fun h => h.keep ((Below.refl _ _).alloc (Nat.le_refl _) _)
  have hn' := fun o => ka (o := o) hn
  have hd' := fun o => ka (o := o) hd
  have HN := Lib.hid hn'
  have HD := Lib.hid hd'
  clear hn hd hn' hd' ka
  rcases Nat.eq_zero_or_pos n with h0 | h0
  · subst h0
    rw [Q.mk'_zero (.inl rfl)]
    go_enter Tryz.func68, Tryz.ntmps68
    go_wp2_with (first
      | (go_at_call 84; ((with_reducible refine (bits_zero_n (HN.out _) (by omega)).mono ?_); rintro e w1 ⟨rfl, hb1⟩))
      | (go_at_call 85; ((with_reducible refine (Z.out _).mono ?_); rintro e w2 ⟨v2, rfl, hv2, hb2⟩; obtain ⟨vn', vd', rfl, hvn, hvd⟩ := hv2; obtain ⟨p1, l1, k1, rfl⟩ := hvn.shape; obtain ⟨p2, l2, k2, rfl⟩ := hvd.shape; have hb2' := bel2' hb1 hb2; have c0 := new_cell hb2' 0; have c1 := new_cell hb2' 1; have c2 := new_cell hb2' 2; have f0 := new_free hb2' 0; have f1 := new_free hb2' 1; have f2 := new_free hb2' 2; simp at c0 c1 c2)))
    refine bodyPost_ret (v := .agg #[.bool false, .slice p1 l1 k1, .slice p2 l2 k2]) (by simp [results, Tryz.results68, go_sem, c0, c1, c2]) rfl ?_
    exact ⟨_, rfl, ret3 (q := ⟨false, 0, 1⟩) hb2' (Nat.le_refl _) (Below.refl _ _) hvn hvd _ rfl⟩
  · rcases Nat.eq_zero_or_pos d with h1 | h1
    · subst h1
      rw [Q.mk'_zero (.inr rfl)]
      have HP := Lib.hid h0
      clear h0
      go_enter Tryz.func68, Tryz.ntmps68
      go_wp2_with (first
        | (go_at_call 84; ((with_reducible refine (bits_pos_n (HN.out _) (by omega) HP.out).mono ?_); rintro e w1 ⟨kk, rfl, hkk, hb1⟩; have hd1 := (HD.out _).keep hb1))
        | (go_at_call 84; ((with_reducible refine (bits_zero_n hd1 (by omega)).mono ?_); rintro e w2 ⟨rfl, hb2⟩; have hb2' := bel2' hb1 hb2))
        | (go_at_call 85; ((with_reducible refine (Z.out _).mono ?_); rintro e w3 ⟨v2, rfl, hv2, hb3⟩; obtain ⟨vn', vd', rfl, hvn, hvd⟩ := hv2; obtain ⟨p1, l1, k1, rfl⟩ := hvn.shape; obtain ⟨p2, l2, k2, rfl⟩ := hvd.shape; have hb3' := bel2' hb2' hb3; have c0 := new_cell hb3' 0; have c1 := new_cell hb3' 1; have c2 := new_cell hb3' 2; have f0 := new_free hb3' 0; have f1 := new_free hb3' 1; have f2 := new_free hb3' 2; simp at c0 c1 c2)))
      refine bodyPost_ret (v := .agg #[.bool false, .slice p1 l1 k1, .slice p2 l2 k2]) (by simp [results, Tryz.results68, go_sem, c0, c1, c2]) rfl ?_
      exact ⟨_, rfl, ret3 (q := ⟨false, 0, 1⟩) hb3' (Nat.le_refl _) (Below.refl _ _) hvn hvd _ rfl⟩
    · rw [Q.mk'_pos h0 h1]
      have HP := Lib.hid h0
      have HP1 := Lib.hid h1
      have HG := Lib.hid (Nat.gcd_pos_of_pos_left d h0)
      clear h0 h1
      obtain ⟨g, hg⟩ : ∃ g, Nat.gcd n d = g := ⟨_, rfl⟩
      have GC : Hid (∀ va vb w, Num w va n L → Num w vb d L → Calls Tryz.prog 86 #[va, vb] w fun e w' => ∃ v', e = .returned v' ∧ Nrm w' v' g L ∧ Below w.heap.size w w') := Lib.hid (fun va vb w h h' => by have := gcd_num h h' hL; rw [hg] at this; exact this)
      rw [hg] at HG ⊢
      clear hg
      go_enter Tryz.func68, Tryz.ntmps68
      go_wp2_with (first
        | (go_at_call 84; ((with_reducible refine (bits_pos_n (HN.out _) (by omega) HP.out).mono ?_); rintro e w1 ⟨kk, rfl, hkk, hb1⟩; have hd1 := (HD.out _).keep hb1; have hn1 := (HN.out _).keep hb1))
        | (go_at_call 84; ((with_reducible refine (bits_pos_n hd1 (by omega) HP1.out).mono ?_); rintro e w2 ⟨kd, rfl, hkd, hb2⟩; have hb2' := bel2' hb1 hb2; have hd2 := hd1.keep hb2; have hn2 := hn1.keep hb2; clear hd1 hn1))
        | (go_at_call 86; ((with_reducible refine (GC.out _ _ _ hn2 hd2).mono ?_); rintro e w3 ⟨v3, rfl, hg3, hb3⟩; have hb3' := bel2' hb2' hb3; have hd3 := hd2.keep hb3; have hn3 := hn2.keep hb3; clear hd2 hn2))
        | (go_at_call 87; ((with_reducible refine (div_gcd hn3 hg3.num hL HG.out).mono ?_); rintro e w4 ⟨vq4, vr4, rfl, hq4, hb4⟩; have hb4' := bel2' hb3' hb4; have hd4 := hd3.keep hb4; have hg4 := hg3.keep hb4; clear hn3 hd3 hg3))
        | (go_at_call 87; ((with_reducible refine (div_gcd hd4 hg4.num hL HG.out).mono ?_); rintro e w5 ⟨vq5, vr5, rfl, hq5, hb5⟩; have hb5' := bel2' hb4' hb5; have hq4b := hq4.keep hb5; obtain ⟨p1, l1, k1, rfl⟩ := hq4b.shape; obtain ⟨p2, l2, k2, rfl⟩ := hq5.shape; have c0 := new_cell hb5' 0; have c1 := new_cell hb5' 1; have c2 := new_cell hb5' 2; have f0 := new_free hb5' 0; have f1 := new_free hb5' 1; have f2 := new_free hb5' 2; simp at c0 c1 c2)))
      refine bodyPost_ret (v := .agg #[.bool neg, .slice p1 l1 k1, .slice p2 l2 k2]) (by simp [results, Tryz.results68, go_sem, c0, c1, c2]) rfl ?_
      exact ⟨_, rfl, ret3 (q := ⟨neg, n / g, d / g⟩) hb5' (Nat.le_refl _) (Below.refl _ _) hq4b hq5 _ rfl⟩

end Go.Proofs.YtbnhgmikegdppaaGreat

namespace Go.Proofs.YtbnhgmikegdppaaGreat
open Go.RowKit Go.Proofs.Kit Go.Proofs.Nums

theorem RatAt.shape {w : World} {v : Value} {q : Q} {L : Nat} (h : RatAt w v q L) : ∃ p1 l1 k1 p2 l2 k2, v = .agg #[.bool q.neg, .slice p1 l1 k1, .slice p2 l2 k2] ∧ Num w (.slice p1 l1 k1) q.n L ∧ Num w (.slice p2 l2 k2) q.d L := by
  obtain ⟨vn, vd, rfl, h1, h2⟩ := h
  obtain ⟨p1, l1, k1, rfl⟩ := h1.shape
  obtain ⟨p2, l2, k2, rfl⟩ := h2.shape
  exact ⟨_, _, _, _, _, _, rfl, h1, h2⟩
theorem RatN.shape {w : World} {v : Value} {q : Q} {L : Nat} (h : RatN w v q L) : ∃ p1 l1 k1 p2 l2 k2, v = .agg #[.bool q.neg, .slice p1 l1 k1, .slice p2 l2 k2] ∧ Nrm w (.slice p1 l1 k1) q.n L ∧ Nrm w (.slice p2 l2 k2) q.d L := by
  obtain ⟨vn, vd, rfl, h1, h2⟩ := h
  obtain ⟨p1, l1, k1, rfl⟩ := h1.shape
  obtain ⟨p2, l2, k2, rfl⟩ := h2.shape
  exact ⟨_, _, _, _, _, _, rfl, h1, h2⟩

theorem Num.alloc {w : World} {v : Value} {n L : Nat} (h : Num w v n L) (o : Obj) : Num (w.alloc o) v n L := h.keep ((Below.refl _ _).alloc (Nat.le_refl _) _)

set_option maxHeartbeats 1000000 in
theorem norm_r {v : Value} {q : Q} {L : Nat} {w : World} (h : RatAt w v q L) (hL : L ≤ 900000) (hL2 : 2 ≤ L) :
    Calls Tryz.prog 121 #[v] w fun e w' => ∃ v', e = .returned v' ∧ RatN w' v' q.norm L ∧ Below w.heap.size w w' := by
  obtain ⟨p1, l1, k1, p2, l2, k2, rfl, hn, hd⟩ := h.shape
  obtain ⟨neg, n, d⟩ := q
  have M : Hid (∀ o1 o2, Calls Tryz.prog 68 #[.bool neg, .slice p1 l1 k1, .slice p2 l2 k2] ((w.alloc o1).alloc o2) fun e w' => ∃ v, e = .returned v ∧ RatN w' v (Q.mk' neg n d) L ∧ Below ((w.alloc o1).alloc o2).heap.size ((w.alloc o1).alloc o2) w') := Lib.hid (fun o1 o2 => make_num ((hn.alloc o1).alloc o2) ((hd.alloc o1).alloc o2) hL hL2)
  clear hn hd h
  go_enter Tryz.func121, Tryz.ntmps121
  go_wp2_with (go_at_call 68; ((with_reducible refine (M.out _ _).mono ?_); rintro e w1 ⟨v1, rfl, hv1, hb1⟩; obtain ⟨a1, b1, e1, a2, b2, e2, rfl, hvn, hvd⟩ := hv1.shape; have c0 := new_cell hb1 0; have c1 := new_cell hb1 1; have c2 := new_cell hb1 2; have f0 := new_free hb1 0; have f1 := new_free hb1 1; have f2 := new_free hb1 2; simp at c0 c1 c2 f0 f1 f2))
  refine bodyPost_ret (v := .agg #[.bool (Q.mk' neg n d).neg, .slice a1 b1 e1, .slice a2 b2 e2]) (by simp [results, Tryz.results121, go_sem, c0, c1, c2]) rfl ?_
  exact ⟨_, rfl, ret3 hb1 (by simp) ((Below.refl _ _).alloc (Nat.le_refl _) _) hvn hvd _ (by simp)⟩

theorem nrm_ofz {n L : Nat} {z : Int} {w : World} (hz : z = (n : Int)) (hn : n < 18446744073709551616) (hL : 2 ≤ L) :
    Calls Tryz.prog 70 #[.int .u64 z] w fun e w' => ∃ v', e = .returned v' ∧ Nrm w' v' n L ∧ Below w.heap.size w w' := by
  subst hz; exact nrm_of hn hL

set_option maxHeartbeats 1000000 in
theorem size_z {z : Int} {L : Nat} {w : World} (h1 : -9223372036854775808 ≤ z) (h2 : z ≤ 9223372036854775807) (hL : 2 ≤ L) :
    Calls Tryz.prog 69 #[.int .i64 z] w fun e w' => ∃ v', e = .returned v' ∧ Nrm w' v' z.natAbs L ∧ Below w.heap.size w w' := by
  obtain ⟨n, hn⟩ : ∃ n, z.natAbs = n := ⟨_, rfl⟩
  rw [hn]
  have HN := Lib.hid hn
  by_cases h : z < 0
  · clear hn
    go_enter Tryz.func69, Tryz.ntmps69
    go_wp2_with (go_at_call 70; ((refine (nrm_ofz (n := n) (by rw [IntKind.wrap_u64, IntKind.wrap_u64]; have := HN.out; omega) (by have := HN.out; omega) hL).mono ?_); rintro e w1 ⟨v1, rfl, hv1, hb1⟩))
    go_ret
    exact ⟨_, rfl, hv1, hb1⟩
  · clear hn
    go_enter Tryz.func69, Tryz.ntmps69
    go_wp2_with (go_at_call 70; ((refine (nrm_ofz (n := n) (by have := HN.out; omega) (by have := HN.out; omega) hL).mono ?_); rintro e w1 ⟨v1, rfl, hv1, hb1⟩))
    go_ret
    exact ⟨_, rfl, hv1, hb1⟩

set_option maxHeartbeats 1000000 in
theorem of_r {z : Int} {L : Nat} {w : World} (h1 : -9223372036854775808 ≤ z) (h2 : z ≤ 9223372036854775807) (hL : 2 ≤ L) (hL2 : L ≤ 900000) :
    Calls Tryz.prog 52 #[.int .i64 z] w fun e w' => ∃ v', e = .returned v' ∧ RatN w' v' (Q.of z) L ∧ Below w.heap.size w w' := by
  unfold Q.of
  obtain ⟨neg, hneg⟩ : ∃ neg, decide (z < 0) = neg := ⟨_, rfl⟩
  have SZ : Hid (∀ w, Calls Tryz.prog 69 #[.int .i64 z] w fun e w' => ∃ v', e = .returned v' ∧ Nrm w' v' z.natAbs L ∧ Below w.heap.size w w') := Lib.hid (fun w => size_z h1 h2 hL)
  have OF : Hid (∀ w, Calls Tryz.prog 70 #[.int .u64 1] w fun e w' => ∃ v', e = .returned v' ∧ Nrm w' v' 1 L ∧ Below w.heap.size w w') := Lib.hid (fun w => nrm_of (n := 1) (by omega) hL)
  obtain ⟨n, hn⟩ : ∃ n, z.natAbs = n := ⟨_, rfl⟩
  rw [hn] at SZ ⊢
  have MK : Hid (∀ vn vd w, Num w vn n L → Num w vd 1 L → Calls Tryz.prog 68 #[.bool (decide (z < 0)), vn, vd] w fun e w' => ∃ v, e = .returned v ∧ RatN w' v (Q.mk' neg n 1) L ∧ Below w.heap.size w w') := Lib.hid (fun vn vd w h h' => by rw [hneg]; exact make_num h h' hL2 hL)
  rw [hneg]
  clear hneg hn
  go_enter Tryz.func52, Tryz.ntmps52
  go_wp2_with (first
    | (go_at_call 69; ((with_reducible refine (SZ.out _).mono ?_); rintro e w1 ⟨v1, rfl, hv1, hb1⟩))
    | (go_at_call 70; ((with_reducible refine (OF.out _).mono ?_); rintro e w2 ⟨v2, rfl, hv2, hb2⟩; have hb2' := bel2' hb1 hb2; have h12 := hv1.keep hb2))
    | (go_at_call 68; ((with_reducible refine (MK.out _ _ _ h12.num hv2.num).mono ?_); rintro e w3 ⟨v3, rfl, hv3, hb3⟩; have hb3' := bel2' hb2' hb3; obtain ⟨a1, b1, e1, a2, b2, e2, rfl, hvn, hvd⟩ := hv3.shape; have c0 := new_cell hb3' 0; have c1 := new_cell hb3' 1; have c2 := new_cell hb3' 2; have f0 := new_free hb3' 0; have f1 := new_free hb3' 1; have f2 := new_free hb3' 2; simp at c0 c1 c2)))
  refine bodyPost_ret (v := .agg #[.bool (Q.mk' neg n 1).neg, .slice a1 b1 e1, .slice a2 b2 e2]) (by simp [results, Tryz.results52, go_sem, c0, c1, c2]) rfl ?_
  exact ⟨_, rfl, ret3 hb3' (Nat.le_refl _) (Below.refl _ _) hvn hvd _ rfl⟩

set_option maxHeartbeats 2000000 in
theorem sum_num {an bn : Bool} {va vb : Value} {a b L : Nat} {w : World} (ha : Num w va a L) (hb : Num w vb b L) (hL : L ≤ 900000) :
    Calls Tryz.prog 122 #[.bool an, va, .bool bn, vb] w fun e w' => ∃ v', e = .returned (.tuple #[.bool (sumS an a bn b).1, v']) ∧ Nrm w' v' (sumS an a bn b).2 (L + 1) ∧ Below w.heap.size w w' := by
  have HA := Lib.hid ha
  have HB := Lib.hid hb
  clear ha hb
  by_cases h : an = bn
  · subst h
    have e : sumS an a an b = (an, a + b) := by unfold sumS; rw [if_pos rfl]
    rw [e]
    clear e
    have hbb : (an == an) = true := by simp
    go_enter Tryz.func122, Tryz.ntmps122
    go_wp2_with (go_at_call 126; ((with_reducible refine (add_num HA.out HB.out (by omega)).mono ?_); rintro e w1 ⟨v1, rfl, hv1, hb1⟩))
    go_ret2
    exact ⟨_, rfl, hv1, hb1⟩
  · have hbb : (an == bn) = false := by rw [beq_eq_false_iff_ne]; exact h
    rcases Nat.lt_or_ge a b with h2 | h2
    · have e : sumS an a bn b = (bn, b - a) := by unfold sumS; rw [if_neg h, if_neg (by omega)]
      rw [e]
      have H2 := Lib.hid h2
      have H3 := Lib.hid (Nat.le_of_lt h2)
      clear e h h2
      go_enter Tryz.func122, Tryz.ntmps122
      go_wp2_with (first
        | (go_at_call 127; ((with_reducible refine (sub_lt HA.out HB.out (by omega) (by omega) H2.out).mono ?_); rintro e w1 ⟨rfl, hb1⟩; have hak := HA.out.keep hb1; have hbk := HB.out.keep hb1))
        | (go_at_call 127; ((with_reducible refine (sub_ge hbk hak (by omega) (by omega) H3.out).mono ?_); rintro e w2 ⟨v2, rfl, hv2, hb2⟩; have hb2' := bel2' hb1 hb2)))
      go_ret2
      exact ⟨_, rfl, hv2.wider (by omega), hb2'⟩
    · have e : sumS an a bn b = (an, a - b) := by unfold sumS; rw [if_neg h, if_pos h2]
      rw [e]
      have H2 := Lib.hid h2
      clear e h h2
      go_enter Tryz.func122, Tryz.ntmps122
      go_wp2_with (go_at_call 127; ((with_reducible refine (sub_ge HA.out HB.out (by omega) (by omega) H2.out).mono ?_); rintro e w1 ⟨v1, rfl, hv1, hb1⟩))
      go_ret2
      exact ⟨_, rfl, hv1.wider (by omega), hb1⟩

end Go.Proofs.YtbnhgmikegdppaaGreat

namespace Go.Proofs.YtbnhgmikegdppaaGreat
open Go.RowKit Go.Proofs.Kit Go.Proofs.Nums

theorem Below.six {w w' : World} {H K : Nat} {a0 a1 a2 b0 b1 b2 : Value} (hb : Below w.heap.size w w')
    (h : w.cell? ⟨H, 0, none⟩ = some a0 ∧ w.cell? ⟨H, 1, none⟩ = some a1 ∧ w.cell? ⟨H, 2, none⟩ = some a2 ∧ w.cell? ⟨K, 0, none⟩ = some b0 ∧ w.cell? ⟨K, 1, none⟩ = some b1 ∧ w.cell? ⟨K, 2, none⟩ = some b2) :
    w'.cell? ⟨H, 0, none⟩ = some a0 ∧ w'.cell? ⟨H, 1, none⟩ = some a1 ∧ w'.cell? ⟨H, 2, none⟩ = some a2 ∧ w'.cell? ⟨K, 0, none⟩ = some b0 ∧ w'.cell? ⟨K, 1, none⟩ = some b1 ∧ w'.cell? ⟨K, 2, none⟩ = some b2 :=
  ⟨cell_keep hb h.1, cell_keep hb h.2.1, cell_keep hb h.2.2.1, cell_keep hb h.2.2.2.1, cell_keep hb h.2.2.2.2.1, cell_keep hb h.2.2.2.2.2⟩

/-- Three cells written in block b. -/
def set3 (w : World) (b : Nat) (x y z : Value) : World := ((w.setCell ⟨b, 0, none⟩ x).setCell ⟨b, 1, none⟩ y).setCell ⟨b, 2, none⟩ z

theorem cell_other {w : World} {b o o' : Nat} {v : Value} (h : o ≠ o') : (w.setCell ⟨b, o, none⟩ v).cell? ⟨b, o', none⟩ = w.cell? ⟨b, o', none⟩ :=
  World.cell?_setCell_other w ⟨b, o, none⟩ ⟨b, o', none⟩ v (fun e => h (by injection e))
theorem cell_same {w : World} {b o : Nat} {u v : Value} (h : w.cell? ⟨b, o, none⟩ = some u) : (w.setCell ⟨b, o, none⟩ v).cell? ⟨b, o, none⟩ = some v :=
  World.cell?_setCell_same w ⟨b, o, none⟩ v h

theorem set3_in {w : World} {b : Nat} {x y z x0 y0 z0 : Value} (h0 : w.cell? ⟨b, 0, none⟩ = some x0) (h1 : w.cell? ⟨b, 1, none⟩ = some y0) (h2 : w.cell? ⟨b, 2, none⟩ = some z0) :
    (set3 w b x y z).cell? ⟨b, 0, none⟩ = some x ∧ (set3 w b x y z).cell? ⟨b, 1, none⟩ = some y ∧ (set3 w b x y z).cell? ⟨b, 2, none⟩ = some z := by
  unfold set3
  have k1 : (w.setCell ⟨b, 0, none⟩ x).cell? ⟨b, 1, none⟩ = some y0 := by rw [cell_other (by omega), h1]
  have k2 : ((w.setCell ⟨b, 0, none⟩ x).setCell ⟨b, 1, none⟩ y).cell? ⟨b, 2, none⟩ = some z0 := by rw [cell_other (by omega), cell_other (by omega), h2]
  refine ⟨?_, ?_, cell_same k2⟩
  · rw [cell_other (by omega), cell_other (by omega)]; exact cell_same h0
  · rw [cell_other (by omega)]; exact cell_same k1
theorem set3_out {w : World} {b b' o : Nat} {x y z : Value} (h : b' ≠ b) : (set3 w b x y z).cell? ⟨b', o, none⟩ = w.cell? ⟨b', o, none⟩ :=
  World.cell?_of_block (a := ⟨b', o, none⟩) (heap_set3 w b x y z b' h)
theorem set3_free {w : World} {b b' o : Nat} {x y z : Value} (h : b' ≠ b) : (set3 w b x y z).frozen? ⟨b', o, none⟩ = w.frozen? ⟨b', o, none⟩ :=
  World.frozen?_of_block (a := ⟨b', o, none⟩) (heap_set3 w b x y z b' h)

/-- A block of three cells, none of them a limb. -/
theorem noLimb_three {w : World} {b : Nat} {cs : Array Value} {T : TypeId} {fz : Nat × Nat} (h : w.heap[b]? = some (.cells cs T fz)) (hs : ∀ (o : Nat) (x : Int), cs[o]? ≠ some (Value.int .u32 x)) : NoLimb w b := fun o x => by
  rw [cell_of_row w b o cs T fz h]; exact hs o x

/-- Two Ratios in two blocks of the call's own, a third block for the result. -/
structure Pair (w0 : World) (H : Nat) (a b : Q) (L : Nat) (w : World) (p1 : Option Addr) (l1 k1 : Nat) (p2 : Option Addr) (l2 k2 : Nat) (p3 : Option Addr) (l3 k3 : Nat) (p4 : Option Addr) (l4 k4 : Nat) : Prop where
  six : w.cell? ⟨H, 0, none⟩ = some (.bool a.neg) ∧ w.cell? ⟨H, 1, none⟩ = some (.slice p1 l1 k1) ∧ w.cell? ⟨H, 2, none⟩ = some (.slice p2 l2 k2) ∧ w.cell? ⟨H + 1, 0, none⟩ = some (.bool b.neg) ∧ w.cell? ⟨H + 1, 1, none⟩ = some (.slice p3 l3 k3) ∧ w.cell? ⟨H + 1, 2, none⟩ = some (.slice p4 l4 k4)
  n1 : Nrm w (.slice p1 l1 k1) a.n L
  n2 : Nrm w (.slice p2 l2 k2) a.d L
  n3 : Nrm w (.slice p3 l3 k3) b.n L
  n4 : Nrm w (.slice p4 l4 k4) b.d L
  below : Below w0.heap.size w0 w
  le : w0.heap.size ≤ H
  lt : H + 2 < w.heap.size
  res : ∀ o, w.cell? ⟨H + 1 + 1, o, none⟩ = (#[.bool false, .slice none 0 0, .slice none 0 0] : Array Value)[o]?
  free : ∀ o, w.frozen? ⟨H + 1 + 1, o, none⟩ = false

theorem Pair.keep {w0 : World} {H : Nat} {a b : Q} {L : Nat} {w w' : World} {p1 : Option Addr} {l1 k1 : Nat} {p2 : Option Addr} {l2 k2 : Nat} {p3 : Option Addr} {l3 k3 : Nat} {p4 : Option Addr} {l4 k4 : Nat}
    (h : Pair w0 H a b L w p1 l1 k1 p2 l2 k2 p3 l3 k3 p4 l4 k4) (hb : Below w.heap.size w w') : Pair w0 H a b L w' p1 l1 k1 p2 l2 k2 p3 l3 k3 p4 l4 k4 :=
  ⟨Below.six hb h.six, h.n1.keep hb, h.n2.keep hb, h.n3.keep hb, h.n4.keep hb, bel2' h.below hb, h.le, Nat.lt_of_lt_of_le h.lt hb.size,
   fun o => by rw [hb.cell (p := ⟨H + 1 + 1, o, none⟩) h.lt, h.res], fun o => by rw [hb.frozen (p := ⟨H + 1 + 1, o, none⟩) h.lt, h.free]⟩

/-- The result is stored. -/
theorem Pair.ret {w0 : World} {H : Nat} {a b : Q} {L M : Nat} {w : World} {p1 : Option Addr} {l1 k1 : Nat} {p2 : Option Addr} {l2 k2 : Nat} {p3 : Option Addr} {l3 k3 : Nat} {p4 : Option Addr} {l4 k4 : Nat}
    (h : Pair w0 H a b L w p1 l1 k1 p2 l2 k2 p3 l3 k3 p4 l4 k4) {q : Q} {vn vd : Value} (hn : Nrm w vn q.n M) (hd : Nrm w vd q.d M) (B : Nat) (hB : B = H + 1 + 1) :
    RatN (((w.setCell ⟨B, 0, none⟩ (.bool q.neg)).setCell ⟨B, 1, none⟩ vn).setCell ⟨B, 2, none⟩ vd) (.agg #[.bool q.neg, vn, vd]) q M ∧
    Below w0.heap.size w0 (((w.setCell ⟨B, 0, none⟩ (.bool q.neg)).setCell ⟨B, 1, none⟩ vn).setCell ⟨B, 2, none⟩ vd) := by
  subst hB
  have HN : NoLimb w (H + 1 + 1) := fun o x => by rw [h.res]; exact noLimb3 (by simp) (by simp) (by simp) o x
  refine ⟨⟨_, _, rfl, hn.off (heap_set3 _ _ _ _ _) HN, hd.off (heap_set3 _ _ _ _ _) HN⟩, below_set3 h.below (by have := h.le; omega) _ _ _⟩

/-- Both are laid in normal form over themselves. -/
theorem Pair.normed {w0 W w : World} {H : Nat} {a b q r : Q} {L : Nat} {p1 : Option Addr} {l1 k1 : Nat} {p2 : Option Addr} {l2 k2 : Nat} {p3 : Option Addr} {l3 k3 : Nat} {p4 : Option Addr} {l4 k4 : Nat}
    {a1 : Option Addr} {b1 e1 : Nat} {a2 : Option Addr} {b2 e2 : Nat} {a3 : Option Addr} {b3 e3 : Nat} {a4 : Option Addr} {b4 e4 : Nat} {T : TypeId}
    (hW : W = ((w0.alloc (.cells #[.bool a.neg, .slice p1 l1 k1, .slice p2 l2 k2] T)).alloc (.cells #[.bool b.neg, .slice p3 l3 k3, .slice p4 l4 k4] T)).alloc (.cells #[.bool false, .slice none 0 0, .slice none 0 0] T))
    (hH : H = w0.heap.size) (hb : Below W.heap.size W.drew w)
    (h1 : Nrm w (.slice a1 b1 e1) q.n L) (h2 : Nrm w (.slice a2 b2 e2) q.d L) (h3 : Nrm w (.slice a3 b3 e3) r.n L) (h4 : Nrm w (.slice a4 b4 e4) r.d L) :
    Pair w0 H q r L (set3 (set3 w H (.bool q.neg) (.slice a1 b1 e1) (.slice a2 b2 e2)) (H + 1) (.bool r.neg) (.slice a3 b3 e3) (.slice a4 b4 e4)) a1 b1 e1 a2 b2 e2 a3 b3 e3 a4 b4 e4 := by
  subst hH
  have hsz : W.heap.size = w0.heap.size + 3 := by subst hW; simp
  have hbw := hb.size
  have hl : w0.heap.size + 3 ≤ w.heap.size := by rw [← hsz]; exact hb.size
  have blk : ∀ k, k < W.heap.size → w.heap[k]? = W.heap[k]? := fun k hk => hb.block k hk
  have g0 : W.heap[w0.heap.size]? = some (.cells #[.bool a.neg, .slice p1 l1 k1, .slice p2 l2 k2] T (0, 0)) := by
    subst hW
    rw [Below.heap_alloc _ _ _ (by simp; omega), Below.heap_alloc _ _ _ (by simp), heap_alloc_new]
  have g1 : W.heap[w0.heap.size + 1]? = some (.cells #[.bool b.neg, .slice p3 l3 k3, .slice p4 l4 k4] T (0, 0)) := by
    subst hW
    rw [Below.heap_alloc _ _ _ (by simp)]
    have := heap_alloc_new (w0.alloc (.cells #[.bool a.neg, .slice p1 l1 k1, .slice p2 l2 k2] T)) (.cells #[.bool b.neg, .slice p3 l3 k3, .slice p4 l4 k4] T)
    simpa only [World.size_alloc] using this
  have g2 : W.heap[w0.heap.size + 1 + 1]? = some (.cells #[.bool false, .slice none 0 0, .slice none 0 0] T (0, 0)) := by
    subst hW
    have := heap_alloc_new ((w0.alloc (.cells #[.bool a.neg, .slice p1 l1 k1, .slice p2 l2 k2] T)).alloc (.cells #[.bool b.neg, .slice p3 l3 k3, .slice p4 l4 k4] T)) (.cells #[.bool false, .slice none 0 0, .slice none 0 0] T)
    simpa only [World.size_alloc] using this
  rw [← blk _ (by omega)] at g0 g1 g2
  have c0 := fun o => cell_of_row w _ o _ _ _ g0
  have c1 := fun o => cell_of_row w _ o _ _ _ g1
  have c2 := fun o => cell_of_row w _ o _ _ _ g2
  have N0 : NoLimb w w0.heap.size := noLimb_three g0 (noLimb3 (by simp) (by simp) (by simp))
  have N1 : NoLimb (set3 w w0.heap.size (.bool q.neg) (.slice a1 b1 e1) (.slice a2 b2 e2)) (w0.heap.size + 1) := fun o x => by
    rw [set3_out (by omega)]; exact noLimb_three g1 (noLimb3 (by simp) (by simp) (by simp)) o x
  have hb0 : Below w0.heap.size w0 w := by
    have : Below w0.heap.size w0 W.drew := by subst hW; exact ((((Below.refl _ _).alloc (Nat.le_refl _) _).alloc (by simp) _).alloc (by simp; omega) _).drew
    exact this.trans (hb.mono (by omega))
  have s0 := set3_in (x := .bool q.neg) (y := .slice a1 b1 e1) (z := .slice a2 b2 e2) (c0 0) (c0 1) (c0 2)
  have d1 := fun o => (set3_out (w := w) (b := w0.heap.size) (b' := w0.heap.size + 1) (o := o) (x := .bool q.neg) (y := .slice a1 b1 e1) (z := .slice a2 b2 e2) (by omega)).trans (c1 o)
  have s1 := set3_in (x := .bool r.neg) (y := .slice a3 b3 e3) (z := .slice a4 b4 e4) (d1 0) (d1 1) (d1 2)
  have off : ∀ {v n}, Nrm w v n L → Nrm (set3 (set3 w w0.heap.size (.bool q.neg) (.slice a1 b1 e1) (.slice a2 b2 e2)) (w0.heap.size + 1) (.bool r.neg) (.slice a3 b3 e3) (.slice a4 b4 e4)) v n L := fun h =>
    (h.off (heap_set3 _ _ _ _ _) N0).off (heap_set3 _ _ _ _ _) N1
  refine ⟨⟨?_, ?_, ?_, s1.1, s1.2.1, s1.2.2⟩, off h1, off h2, off h3, off h4, below_set3 (below_set3 hb0 (Nat.le_refl _) _ _ _) (by omega) _ _ _, Nat.le_refl _, ?_, ?_, ?_⟩
  · rw [set3_out (by omega)]; exact s0.1
  · rw [set3_out (by omega)]; exact s0.2.1
  · rw [set3_out (by omega)]; exact s0.2.2
  · unfold set3; simp; omega
  · intro o; rw [set3_out (by omega), set3_out (by omega), c2]
  · intro o
    rw [set3_free (by omega), set3_free (by omega)]
    unfold World.frozen?
    rw [g2]
    simp

end Go.Proofs.YtbnhgmikegdppaaGreat

namespace Go.Proofs.YtbnhgmikegdppaaGreat
open Go.RowKit Go.Proofs.Kit Go.Proofs.Nums

theorem make_b {neg : Bool} {vn vd : Value} {n d L : Nat} {w : World} (hn : Num w vn n (2 * L + 1)) (hd : Num w vd d (L + L)) (hL : L ≤ 100000) (hL2 : 2 ≤ L) :
    Calls Tryz.prog 68 #[.bool neg, vn, vd] w fun e w' => ∃ v, e = .returned v ∧ RatN w' v (Q.mk' neg n d) (2 * L + 1) ∧ Below w.heap.size w w' :=
  make_num hn (hd.wider (by omega)) (by omega) (by omega)

theorem sum_b {an bn : Bool} {va vb : Value} {a b L : Nat} {w : World} (ha : Num w va a (L + L)) (hb : Num w vb b (L + L)) (hL : L ≤ 100000) :
    Calls Tryz.prog 122 #[.bool an, va, .bool bn, vb] w fun e w' => ∃ v' s, s = sumS an a bn b ∧ e = .returned (.tuple #[.bool s.1, v']) ∧ Nrm w' v' s.2 (2 * L + 1) ∧ Below w.heap.size w w' :=
  (sum_num ha hb (by omega)).mono fun _ _ ⟨v', h1, h2, h3⟩ => ⟨v', _, rfl, h1, h2.wider (by omega), h3⟩

set_option maxRecDepth 100000 in
set_option maxHeartbeats 8000000 in
theorem add_r {va vb : Value} {a b : Q} {L : Nat} {w : World} (ha : RatAt w va a L) (hb : RatAt w vb b L) (hL : L ≤ 100000) (hL2 : 2 ≤ L) :
    Calls Tryz.prog 112 #[va, vb] w fun e w' => ∃ v', e = .returned v' ∧ RatN w' v' (Q.add a b) (2 * L + 1) ∧ Below w.heap.size w w' := by
  obtain ⟨p1, l1, k1, p2, l2, k2, rfl, hn, hd⟩ := ha.shape
  obtain ⟨p3, l3, k3, p4, l4, k4, rfl, hm, hc⟩ := hb.shape
  obtain ⟨qa, hqa⟩ : ∃ qa, a.norm = qa := ⟨_, rfl⟩
  obtain ⟨qb, hqb⟩ : ∃ qb, b.norm = qb := ⟨_, rfl⟩
  have NA : Hid (∀ w', Below w.heap.size w w' → Calls Tryz.prog 121 #[.agg #[.bool a.neg, .slice p1 l1 k1, .slice p2 l2 k2]] w' fun e w'' => ∃ v', e = .returned v' ∧ RatN w'' v' qa L ∧ Below w'.heap.size w' w'') := Lib.hid (fun w' h => by rw [← hqa]; exact norm_r (ha.keep h) (by omega) hL2)
  have NB : Hid (∀ w', Below w.heap.size w w' → Calls Tryz.prog 121 #[.agg #[.bool b.neg, .slice p3 l3 k3, .slice p4 l4 k4]] w' fun e w'' => ∃ v', e = .returned v' ∧ RatN w'' v' qb L ∧ Below w'.heap.size w' w'') := Lib.hid (fun w' h => by rw [← hqb]; exact norm_r (hb.keep h) (by omega) hL2)
  have HADD : Hid (Q.add a b = Q.mk' (sumS qa.neg (qa.n * qb.d) qb.neg (qb.n * qa.d)).1 (sumS qa.neg (qa.n * qb.d) qb.neg (qb.n * qa.d)).2 (qa.d * qb.d)) := Lib.hid (by unfold Q.add Q.addR; rw [hqa, hqb])
  clear hn hd hm hc ha hb hqa hqb
  go_enter Tryz.func112, Tryz.ntmps112
  go_wp2_with fail
  generalize hW : ((w.alloc (.cells #[.bool a.neg, .slice p1 l1 k1, .slice p2 l2 k2] 51)).alloc (.cells #[.bool b.neg, .slice p3 l3 k3, .slice p4 l4 k4] 51)).alloc (.cells #[.bool false, .slice none 0 0, .slice none 0 0] 51) = W
  have hBW : Below w.heap.size w W := by rw [← hW]; exact (((Below.refl _ _).alloc (Nat.le_refl _) _).alloc (by simp) _).alloc (by simp; omega) _
  have s0 : W.drew.cell? ⟨w.heap.size, 0, none⟩ = some (.bool a.neg) ∧ W.drew.cell? ⟨w.heap.size, 1, none⟩ = some (.slice p1 l1 k1) ∧ W.drew.cell? ⟨w.heap.size, 2, none⟩ = some (.slice p2 l2 k2) ∧ W.drew.cell? ⟨w.heap.size + 1, 0, none⟩ = some (.bool b.neg) ∧ W.drew.cell? ⟨w.heap.size + 1, 1, none⟩ = some (.slice p3 l3 k3) ∧ W.drew.cell? ⟨w.heap.size + 1, 2, none⟩ = some (.slice p4 l4 k4) := by
    have e1 := fun off => cell_alloc_new w #[.bool a.neg, .slice p1 l1 k1, .slice p2 l2 k2] 51 (0, 0) off
    have e2 := fun off => cell_alloc_new (w.alloc (.cells #[.bool a.neg, .slice p1 l1 k1, .slice p2 l2 k2] 51)) #[.bool b.neg, .slice p3 l3 k3, .slice p4 l4 k4] 51 (0, 0) off
    subst hW
    simp only [World.size_alloc] at e2
    exact ⟨cell_alloc_old (cell_alloc_old (e1 0)), cell_alloc_old (cell_alloc_old (e1 1)), cell_alloc_old (cell_alloc_old (e1 2)), cell_alloc_old (e2 0), cell_alloc_old (e2 1), cell_alloc_old (e2 2)⟩
  have hsz : W.heap.size = w.heap.size + 3 := by subst hW; simp
  have fz : ∀ b o, w.heap.size ≤ b → b < W.heap.size → W.drew.frozen? ⟨b, o, none⟩ = false := by
    intro b o h1 h2
    have g0 : ∃ cs, W.heap[b]? = some (.cells cs 51 (0, 0)) := by
      have h3 : b = w.heap.size ∨ b = w.heap.size + 1 ∨ b = w.heap.size + 2 := by omega
      subst hW
      rcases h3 with rfl | rfl | rfl
      · exact ⟨_, by rw [Below.heap_alloc _ _ _ (by simp; omega), Below.heap_alloc _ _ _ (by simp), heap_alloc_new]⟩
      · refine ⟨#[.bool b.neg, .slice p3 l3 k3, .slice p4 l4 k4], ?_⟩
        rw [Below.heap_alloc _ _ _ (by simp)]
        have := heap_alloc_new (w.alloc (.cells #[.bool a.neg, .slice p1 l1 k1, .slice p2 l2 k2] 51)) (.cells #[.bool b.neg, .slice p3 l3 k3, .slice p4 l4 k4] 51)
        simpa only [World.size_alloc] using this
      · refine ⟨#[.bool false, .slice none 0 0, .slice none 0 0], ?_⟩
        have := heap_alloc_new ((w.alloc (.cells #[.bool a.neg, .slice p1 l1 k1, .slice p2 l2 k2] 51)).alloc (.cells #[.bool b.neg, .slice p3 l3 k3, .slice p4 l4 k4] 51)) (.cells #[.bool false, .slice none 0 0, .slice none 0 0] 51)
        simpa only [World.size_alloc] using this
    obtain ⟨cs, g0⟩ := g0
    have g1 : W.drew.heap[b]? = some (.cells cs 51 (0, 0)) := g0
    unfold World.frozen?
    rw [g1]
    simp
  have hBd : Below w.heap.size w W.drew := hBW.drew
  have S0 := Lib.hid s0
  have FZ := Lib.hid fz
  have HW := Lib.hid hW.symm
  obtain ⟨d0, d1, d2, d3, d4, d5⟩ := s0
  have hlw1 : w.heap.size < W.heap.size := by omega
  have hlw2 : w.heap.size + 1 < W.heap.size := by omega
  clear hW fz hsz
  go_region_with (first
      | (go_at_call 121; ((with_reducible refine (NA.out _ hBd).mono ?_); rintro e w4 ⟨v4, rfl, hv4, hb4⟩; obtain ⟨a1, b1, e1, a2, b2, e2, rfl, hn4, hd4⟩ := hv4.shape; have s4 := Below.six hb4 S0.out; have S4 := Lib.hid s4; obtain ⟨g0, g1, g2, g3, g4, g5⟩ := s4; have hB4 := bel2' hBd hb4))
      | (go_at_call 121; ((with_reducible refine (NB.out _ hB4).mono ?_); rintro e w5 ⟨v5, rfl, hv5, hb5⟩; obtain ⟨a3, b3, e3, a4, b4, e4, rfl, hn5, hd5⟩ := hv5.shape; have s5 := Below.six hb5 S4.out; have S5 := Lib.hid s5; obtain ⟨k0, k1', k2', k3', k4', k5⟩ := s5; have hB5 := bel2' hB4 hb5; have f5 := fun b o (h1 : b < W.heap.size) (h2 : w.heap.size ≤ b) => free_below hb5 (free_below hb4 (FZ.out b o h2 h1) h1) (Nat.lt_of_lt_of_le h1 hb4.size); have f50 := f5 w.heap.size 0 hlw1 (Nat.le_refl _); have f51 := f5 w.heap.size 1 hlw1 (Nat.le_refl _); have f52 := f5 w.heap.size 2 hlw1 (Nat.le_refl _); have f53 := f5 (w.heap.size + 1) 0 hlw2 (Nat.le_succ _); have f54 := f5 (w.heap.size + 1) 1 hlw2 (Nat.le_succ _); have f55 := f5 (w.heap.size + 1) 2 hlw2 (Nat.le_succ _); clear f5; have PR0 := Pair.normed HW.out rfl (hb4.trans (hb5.mono hb4.size)) (hn4.keep hb5) (hd4.keep hb5) hn5 hd5; have PR := Lib.hid PR0; clear PR0)))
  all_goals
    have PR1 := PR.out
    unfold set3 at PR1
    revert PR1
    generalize (((((w5.setCell ⟨w.heap.size, 0, none⟩ (.bool qa.neg)).setCell ⟨w.heap.size, 1, none⟩ (.slice a1 b1 e1)).setCell ⟨w.heap.size, 2, none⟩ (.slice a2 b2 e2)).setCell ⟨w.heap.size + 1, 0, none⟩ (.bool qb.neg)).setCell ⟨w.heap.size + 1, 1, none⟩ (.slice a3 b3 e3)).setCell ⟨w.heap.size + 1, 2, none⟩ (.slice a4 b4 e4) = W6
    intro PR1
    have PD := Lib.hid (PR1.keep (Below.refl _ _).drew)
    clear PR1 PR d0 d1 d2 d3 d4 d5 g0 g1 g2 g3 g4 g5 k0 k1' k2' k3' k4' k5 f50 f51 f52 f53 f54 f55 S5 S4 S0 FZ HW NA NB hB4 hB5 hb4 hb5 hn4 hd4 hn5 hd5 hv4 hv5 hBd hBW hlw1 hlw2
    go_wp2_with fail
    go_region_held3 (fun w' => w'.cell? ⟨w.heap.size, 0, none⟩ = some (.bool qa.neg) ∧ w'.cell? ⟨w.heap.size, 1, none⟩ = some (.slice a1 b1 e1) ∧ w'.cell? ⟨w.heap.size, 2, none⟩ = some (.slice a2 b2 e2) ∧ w'.cell? ⟨w.heap.size + 1, 0, none⟩ = some (.bool qb.neg) ∧ w'.cell? ⟨w.heap.size + 1, 1, none⟩ = some (.slice a3 b3 e3) ∧ w'.cell? ⟨w.heap.size + 1, 2, none⟩ = some (.slice a4 b4 e4))
      (first | exact PD.out.six | exact P7.out.six | exact P8.out.six | exact P9.out.six)
      (first
        | (go_at_call 123; ((with_reducible refine (mul_num PD.out.n1.num PD.out.n4.num (by omega) (by omega)).mono ?_); rintro e w7 ⟨v7, rfl, hv7, hb7⟩; have P7 := Lib.hid (PD.out.keep hb7)))
        | (go_at_call 123; ((with_reducible refine (mul_num P7.out.n3.num P7.out.n2.num (by omega) (by omega)).mono ?_); rintro e w8 ⟨v8, rfl, hv8, hb8⟩; have P8 := Lib.hid (P7.out.keep hb8); have hv7b := hv7.keep hb8))
        | (go_at_call 122; ((with_reducible refine (sum_b hv7b.num hv8.num hL).mono ?_); rintro e w9 ⟨v9, ss, hss, rfl, hv9, hb9⟩; have HSS := Lib.hid hss; clear hss; have P9 := Lib.hid (P8.out.keep hb9))))
    all_goals
      have c9 := P9.out.six.2.2.1
      have c9' := P9.out.six.2.2.2.2.2
      go_wp2_with (first
        | (go_at_call 123; ((with_reducible refine (mul_num P9.out.n2.num P9.out.n4.num (by omega) (by omega)).mono ?_); rintro e w10 ⟨v10, rfl, hv10, hb10⟩; have P10 := Lib.hid (P9.out.keep hb10); have hv9b := hv9.keep hb10))
        | (go_at_call 68; ((with_reducible refine (make_b hv9b.num hv10.num hL hL2).mono ?_); rintro e w11 ⟨v11, rfl, hv11, hb11⟩; have P11 := Lib.hid (P10.out.keep hb11); obtain ⟨x1, y1, z1, x2, y2, z2, rfl, hvn, hvd⟩ := hv11.shape; have c0 := P11.out.res 0; have c1 := P11.out.res 1; have c2 := P11.out.res 2; have f0 := P11.out.free 0; have f1 := P11.out.free 1; have f2 := P11.out.free 2; simp at c0 c1 c2)))
      refine bodyPost_ret (v := .agg #[.bool (Q.mk' ss.1 ss.2 (qa.d * qb.d)).neg, .slice x1 y1 z1, .slice x2 y2 z2]) (by simp [results, Tryz.results112, go_sem, c0, c1, c2]) rfl ?_
      have hfin := P11.out.ret hvn hvd _ rfl
      refine ⟨_, rfl, ?_, hfin.2⟩
      rw [HADD.out, ← HSS.out]
      exact hfin.1

end Go.Proofs.YtbnhgmikegdppaaGreat

namespace Go.Proofs.YtbnhgmikegdppaaGreat
open Go.RowKit Go.Proofs.Kit Go.Proofs.Nums

theorem RatAt.flip {w : World} {q : Q} {L : Nat} {vn vd : Value} (h : RatAt w (.agg #[.bool q.neg, vn, vd]) q L) : RatAt w (.agg #[.bool (!q.neg), vn, vd]) q.flip L := by
  obtain ⟨a, b, h1, h2, h3⟩ := h
  simp only [Value.agg.injEq, Array.mk.injEq, List.cons.injEq, true_and, and_true] at h1
  obtain ⟨rfl, rfl⟩ := h1
  exact ⟨_, _, rfl, h2, h3⟩

set_option maxHeartbeats 4000000 in
theorem sub_r {va vb : Value} {a b : Q} {L : Nat} {w : World} (ha : RatAt w va a L) (hb : RatAt w vb b L) (hL : L ≤ 100000) (hL2 : 2 ≤ L) :
    Calls Tryz.prog 105 #[va, vb] w fun e w' => ∃ v', e = .returned v' ∧ RatN w' v' (Q.sub a b) (2 * L + 1) ∧ Below w.heap.size w w' := by
  obtain ⟨p1, l1, k1, p2, l2, k2, rfl, hn, hd⟩ := ha.shape
  obtain ⟨p3, l3, k3, p4, l4, k4, rfl, hm, hc⟩ := hb.shape
  have AD : Hid (∀ w', Below w.heap.size w w' → Calls Tryz.prog 112 #[.agg #[.bool a.neg, .slice p1 l1 k1, .slice p2 l2 k2], .agg #[.bool (!b.neg), .slice p3 l3 k3, .slice p4 l4 k4]] w' fun e w'' => ∃ v', e = .returned v' ∧ RatN w'' v' (Q.sub a b) (2 * L + 1) ∧ Below w'.heap.size w' w'') := Lib.hid (fun w' h => add_r (ha.keep h) (hb.keep h).flip hL hL2)
  clear hn hd hm hc ha hb
  obtain ⟨an, hab⟩ : ∃ x, a.neg = x := ⟨_, rfl⟩
  obtain ⟨bn, hbb⟩ : ∃ x, b.neg = x := ⟨_, rfl⟩
  rw [hab, hbb] at AD
  rw [hab, hbb]
  clear hab hbb
  go_enter Tryz.func105, Tryz.ntmps105
  go_wp2_with (go_at_call 112; ((with_reducible refine (AD.out _ (by first | exact ((((Below.refl _ _).alloc (Nat.le_refl _) _).alloc (by simp) _).alloc (by simp; omega) _) | exact ((((Below.refl _ _).alloc (Nat.le_refl _) _).alloc (by simp) _).alloc (by simp; omega) _).setCell (by simp) _)).mono ?_); rintro e w1 ⟨v1, rfl, hv1, hb1⟩; obtain ⟨x1, y1, z1, x2, y2, z2, rfl, hvn, hvd⟩ := hv1.shape; have c0 := new_cell hb1 0; have c1 := new_cell hb1 1; have c2 := new_cell hb1 2; have f0 := new_free hb1 0; have f1 := new_free hb1 1; have f2 := new_free hb1 2; simp at c0 c1 c2 f0 f1 f2))
  refine bodyPost_ret (v := .agg #[.bool (Q.sub a b).neg, .slice x1 y1 z1, .slice x2 y2 z2]) (by simp [results, Tryz.results105, go_sem, c0, c1, c2]) rfl ?_
  exact ⟨_, rfl, ret3 hb1 (by simp; omega) (((Below.refl _ _).alloc (Nat.le_refl _) _).alloc (by simp) _) hvn hvd _ (by simp)⟩

set_option maxHeartbeats 4000000 in
theorem cmp_r {va vb : Value} {a b : Q} {L : Nat} {w : World} (ha : RatAt w va a L) (hb : RatAt w vb b L) (hL : L ≤ 100000) (hL2 : 2 ≤ L) :
    Calls Tryz.prog 89 #[va, vb] w fun e w' => e = .returned (.int .i64 (Q.cmp a b)) ∧ Below w.heap.size w w' := by
  obtain ⟨p1, l1, k1, p2, l2, k2, rfl, hn, hd⟩ := ha.shape
  obtain ⟨p3, l3, k3, p4, l4, k4, rfl, hm, hc⟩ := hb.shape
  obtain ⟨⟨dneg, dn, dd⟩, hD⟩ : ∃ D, Q.sub a b = D := ⟨_, rfl⟩
  have SU : Hid (∀ w', Below w.heap.size w w' → Calls Tryz.prog 105 #[.agg #[.bool a.neg, .slice p1 l1 k1, .slice p2 l2 k2], .agg #[.bool b.neg, .slice p3 l3 k3, .slice p4 l4 k4]] w' fun e w'' => ∃ x z x2 y2 z2, e = .returned (.agg #[.bool dneg, .slice x (limbs dn).length z, .slice x2 y2 z2]) ∧ Below w'.heap.size w' w'') := Lib.hid (fun w' h => by
    have := sub_r (ha.keep h) (hb.keep h) hL hL2
    rw [hD] at this
    refine this.mono ?_
    rintro e w'' ⟨v', rfl, ⟨vn, vd, rfl, h1, h2⟩, h3⟩
    obtain ⟨x, z, rfl⟩ := h1.1.shape
    obtain ⟨x2, y2, z2, rfl⟩ := h2.shape
    exact ⟨_, _, _, _, _, rfl, h3⟩)
  have hcmp : Q.cmp a b = if dneg then -1 else if dn = 0 then 0 else 1 := by unfold Q.cmp; rw [hD]
  obtain ⟨C, hC⟩ : ∃ C, Q.cmp a b = C := ⟨_, rfl⟩
  rw [hC] at hcmp ⊢
  clear hn hd hm hc ha hb hD hC
  cases dneg
  · rcases Nat.eq_zero_or_pos dn with h0 | h0
    · subst h0
      obtain rfl : C = 0 := by rw [hcmp]; rfl
      clear hcmp
      have hz : (limbs 0).length = 0 := rfl
      go_enter Tryz.func89, Tryz.ntmps89
      go_wp2_with (go_at_call 105; ((with_reducible refine (SU.out _ (((Below.refl _ _).alloc (Nat.le_refl _) _).alloc (by simp) _)).mono ?_); rintro e w1 ⟨x, z, x2, y2, z2, rfl, hb1⟩; have hb1' := (((Below.refl _ _).alloc (Nat.le_refl _) _).alloc (by simp) _ : Below w.heap.size w ((w.alloc _).alloc _)).trans (hb1.mono (by simp; omega))))
      go_ret
      exact ⟨rfl, hb1'.alloc hb1'.size _⟩
    · have hz : (((limbs dn).length : Int) == 0) = false := by rw [beq_eq_false_iff_ne]; have := limbs_len_pos h0; omega
      obtain rfl : C = 1 := by rw [hcmp, if_neg (by simp), if_neg (by omega)]
      clear h0 hcmp
      go_enter Tryz.func89, Tryz.ntmps89
      go_wp2_with (go_at_call 105; ((with_reducible refine (SU.out _ (((Below.refl _ _).alloc (Nat.le_refl _) _).alloc (by simp) _)).mono ?_); rintro e w1 ⟨x, z, x2, y2, z2, rfl, hb1⟩; have hb1' := (((Below.refl _ _).alloc (Nat.le_refl _) _).alloc (by simp) _ : Below w.heap.size w ((w.alloc _).alloc _)).trans (hb1.mono (by simp; omega))))
      go_ret
      exact ⟨rfl, hb1'.alloc hb1'.size _⟩
  · obtain rfl : C = -1 := by rw [hcmp]; rfl
    clear hcmp
    go_enter Tryz.func89, Tryz.ntmps89
    go_wp2_with (go_at_call 105; ((with_reducible refine (SU.out _ (((Below.refl _ _).alloc (Nat.le_refl _) _).alloc (by simp) _)).mono ?_); rintro e w1 ⟨x, z, x2, y2, z2, rfl, hb1⟩; have hb1' := (((Below.refl _ _).alloc (Nat.le_refl _) _).alloc (by simp) _ : Below w.heap.size w ((w.alloc _).alloc _)).trans (hb1.mono (by simp; omega))))
    go_ret
    exact ⟨rfl, hb1'.alloc hb1'.size _⟩

end Go.Proofs.YtbnhgmikegdppaaGreat

namespace Go.Proofs.YtbnhgmikegdppaaGreat
open Go.RowKit Go.Proofs.Kit Go.Proofs.Nums

theorem made_bits {w : World} {base g n cap : Nat} (h : w.ownsRow base 4 1 (.slice (some ⟨g, 0, none⟩) n cap) n (madeCells (Value.bool false).cells (n * 1)).toList) :
    w.ownsRow base 4 1 (.slice (some ⟨g, 0, none⟩) n cap) n ((List.replicate n false).map Value.bool) := by
  rw [show (Value.bool false).cells = #[.bool false] from rfl, toList_madeCells_one, Nat.mul_one] at h
  rw [List.map_replicate]; exact h

set_option maxHeartbeats 1000000 in
theorem shift_any (v : Value) (l : List Bool) (i : Nat) (w : World) (h : BitAt w v l) (hl : l.length ≤ 100000) (hi : i ≤ 100000) :
    Calls Tryz.prog 124 #[v, .int .i64 i] w fun e w' => ∃ v', e = .returned v' ∧ BitAt w' v' (List.replicate i false ++ l) ∧ Below w.heap.size w w' := by
  have H := Lib.hid h
  clear h
  go_enter Tryz.func124, Tryz.ntmps124
  go_wp2_with (first
    | (at_make; go_must (refine make_any er123 rfl rfl rfl rfl (by omega) (by omega) (by omega) ?_); intro w3 hown3 hb3; have hown4 := made_bits hown3; clear hown3)
    | (at_builtin; go_must (refine append_read er123 (by rfl) (by rfl) hown4 (by rfl) (H.out.keep hb3) (by rfl) (bool_one l) (by rw [List.length_map]; omega) (by rw [List.length_map]; omega) hb3.size ?_); intro v' w1 hown1 hb1))
  go_ret
  refine ⟨_, rfl, ?_, hb3.trans hb1⟩
  have := RowAt.owned hown1
  rw [← List.map_append] at this
  exact this

set_option maxHeartbeats 4000000 in
theorem rmul_any (va vb : Value) (a b : List Bool) (w : World) (ha : BitAt w va a) (hb : BitAt w vb b) (hla : a.length ≤ 20000) (hlb : b.length ≤ 20000) :
    Calls Tryz.prog 113 #[va, vb] w fun e w' => ∃ v', e = .returned v' ∧ BitAt w' v' (bitsN (bval a * bval b)) ∧ Below w.heap.size w w' := by
  obtain ⟨p2, c2, rfl⟩ := hb.shape
  have HA := Lib.hid ha
  have HB := Lib.hid hb
  clear ha hb
  have LEN : Hid (∀ k, (bitsN (bval a * bval (b.take k))).length ≤ 40000) := Lib.hid (fun k => by
    refine Nat.le_trans (bits_len_le _ (a.length + (b.take k).length) ?_) (by rw [List.length_take]; omega)
    rw [Nat.pow_add]
    exact Nat.mul_lt_mul_of_lt_of_le (bval_lt a) (Nat.le_of_lt (bval_lt _)) (Nat.pow_pos (by omega)))
  go_enter Tryz.func113, Tryz.ntmps113
  go_wp2_with fail
  go_loopw [5, 6] (fun sv i wr => ∃ k : Nat, k ≤ b.length ∧ i = .int .i64 k ∧ BitAt wr sv (bitsN (bval a * bval (b.take k))) ∧ Below w.heap.size w wr) (fun _ i _ => b.length - (intOf i).toNat)
  case atStart => exact ⟨0, by omega, rfl, by simp only [List.take_zero, bval, Nat.mul_zero, bits_zero]; exact BitAt.nil _, Below.refl _ _⟩
  case round =>
    obtain ⟨k, hk, rfl, hS, hbel⟩ := hrel
    have HS := Lib.hid hS
    clear hS
    by_cases hlt : k < b.length
    · rcases (HB.out.keep hbel).cases with ⟨hx0, _⟩ | ⟨_, b1, o1, k1, hv1, hk1, hm1, hbb, hcell1⟩
      · rw [hx0] at hlt; simp at hlt
      simp only [Value.slice.injEq] at hv1
      obtain ⟨rfl, _, rfl⟩ := hv1
      have q1 := hcell1 k hlt
      clear hcell1
      cases hbit : bnth b k
      · rw [hbit] at q1
        go_wp2_with fail
        go_roundw
        case rel =>
          refine ⟨k + 1, by omega, by go_num, ?_, hbel⟩
          rw [bval_take_succ, hbit]
          simpa [bN] using HS.out
        case measure => simp [intOf] <;> omega
      · rw [hbit] at q1
        have SH := Lib.hid (shift_any va a k wr (HA.out.keep hbel) (by omega) (by omega))
        go_wp2_with (first
          | (go_at_call 124; ((with_reducible refine SH.out.mono ?_); rintro e w4 ⟨v4, rfl, hv4, hb4⟩))
          | (go_at_call 114; (refine (radd_any _ _ _ _ _ (HS.out.keep hb4) hv4 (Nat.le_trans (LEN.out k) (by omega)) (by rw [List.length_append, List.length_replicate]; omega)).mono ?_); rintro e w5 ⟨v5, rfl, hv5, hb5⟩))
        go_roundw
        case rel =>
          refine ⟨k + 1, by omega, by go_num, ?_, hbel.trans ((hb4.mono hbel.size).trans (hb5.mono (Nat.le_trans hbel.size hb4.size)))⟩
          rw [bval_bits, bval_app, bval_zeros, List.length_replicate] at hv5
          rw [bval_take_succ, hbit]
          have e : bval a * (bval (b.take k) + 2 ^ k * bN true) = bval a * bval (b.take k) + (0 + 2 ^ k * bval a) := by
            simp only [bN, if_true, Nat.mul_one, Nat.zero_add, Nat.mul_add]
            rw [Nat.mul_comm (bval a) (2 ^ k)]
          rw [e]; exact hv5
        case measure => simp [intOf] <;> omega
    · obtain rfl : k = b.length := by omega
      have hv : Hid (bitsN (bval a * bval b) = bitsN (bval (bitsN (bval a * bval (b.take b.length))))) := Lib.hid (by rw [bval_bits, List.take_length])
      go_wp2_with (go_at_call 120; refine (rtrim_any _ _ _ HS.out (Nat.le_trans (LEN.out _) (by omega))).mono ?_; rw [← hv.out]; rintro e w4 ⟨v4, rfl, hv4, hb4⟩)
      go_ret
      exact ⟨_, rfl, hv4, bel2' hbel hb4⟩

end Go.Proofs.YtbnhgmikegdppaaGreat
