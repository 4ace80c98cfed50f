import Derived.Test.YtlhkjkhbgebgiaaGF
import Derived.Test.YtlhkjkhbgebgiaaMV
import Derived.Test.YtlhkjkhbgebgiaaGE
import Derived.Test.YtlhkjkhbgebgiaaMS
namespace Go.Proofs.Ytlhkjkhbgebgiaa
open Go.RowKit Go.Proofs.Kit Go.Proofs.Nums

theorem lz_any (x s : Nat) (w : World) (hx : x < 4294967296) (hs : (32 - (Lib.bitLen x : Int)) = (s : Int)) :
    Calls Try.prog 70 #[.int .u32 x] w fun e w' => e = .returned (.int .i64 s) ∧ w = w' :=
  (Try.bits_LeadingZeros32 (x : Int) w (by omega) (by omega)).mono fun e w' ⟨h1, h2⟩ => ⟨by rw [h1, ← hs]; rfl, h2.symm⟩

theorem NatAt.cellAt {w : World} {p : Option Addr} {c n : Nat} {l : List Nat} (h : NatAt w (.slice p n c) l) (j : Nat) (hj : j < l.length) :
    ∃ b off, p = some ⟨b, off, none⟩ ∧ l.length ≤ c ∧ c ≤ 9223372036854775807 ∧ w.cell? ⟨b, off + j, none⟩ = some (.int .u32 ((nth l j : Nat) : Int)) := by
  rcases h.cases with ⟨h1, _⟩ | ⟨_, b, off, k, hv, h2, h3, _, hc⟩
  · rw [h1] at hj; simp at hj
  · simp only [Value.slice.injEq] at hv
    obtain ⟨rfl, _, rfl⟩ := hv
    exact ⟨b, off, rfl, h2, h3, hc j hj⟩

theorem ob_ne {v v' : Value} {a g : Nat} (h : v'.ownBlock = none ∨ v'.ownBlock = v.ownBlock) (h1 : v.ownBlock = some a) (h2 : a ≠ g) : v'.ownBlock ≠ some g := by
  rcases h with h | h
  · rw [h]; simp
  · rw [h, h1]; intro e; exact h2 (Option.some.inj e)

theorem div_zero {va vb : Value} {n L M : Nat} {w : World} (ha : Num w va n L) (hb : Num w vb 0 M) :
    Calls Try.prog 59 #[va, vb] w fun e w' => e = .returned (.tuple #[.slice none 0 0, .slice none 0 0, .bool false]) ∧ w = w' := by
  obtain ⟨a, h1, rfl, h3⟩ := ha
  obtain ⟨b, k1, k2, k3⟩ := hb
  have CA := Lib.hid (trim_any va a w h1)
  have cb := trim_any vb b w k1
  rw [k2, limbs_zero] at cb
  have CB := Lib.hid cb
  clear h1 h3 k1 k2 k3 cb
  go_enter Try.func59, Try.ntmps59
  go_wp2_with (first
    | (go_at_call 44; ((with_reducible refine CA.out.mono ?_); rintro e w1 ⟨v1, rfl, hv1, rfl⟩))
    | (go_at_call 44; ((with_reducible refine CB.out.mono ?_); rintro e w2 ⟨v2, rfl, hv2, rfl⟩; obtain ⟨p2, c2, rfl⟩ := hv2.shape; clear hv2)))
  go_ret3
  exact ⟨rfl, rfl⟩

/-- What Div hands back where the divisor is not 0. -/
def DivRet (n m L M : Nat) (w : World) (e : Ending) (w' : World) : Prop := ∃ vq vr, e = .returned (.tuple #[vq, vr, .bool true]) ∧ Nrm w' vq (n / m) L ∧ Nrm w' vr (n % m) M ∧ Below w.heap.size w w'

set_option maxHeartbeats 2000000 in
theorem div_less {va vb : Value} {n m L M : Nat} {w : World} (ha : Num w va n L) (hb : Num w vb m M) (hL : L ≤ 1000000) (hM : M ≤ 1000000) (hnm : n < m) :
    Calls Try.prog 59 #[va, vb] w (DivRet n m L M w) := by
  have hnM : n < 4294967296 ^ M := Nat.lt_trans hnm hb.lt
  have hq : n / m = 0 := Nat.div_eq_of_lt hnm
  have hr : n % m = n := Nat.mod_eq_of_lt hnm
  obtain ⟨a, h1, hn, h3⟩ := ha
  obtain ⟨b, k1, hm, k3⟩ := hb
  have ca := trim_any va a w h1
  have cb := trim_any vb b w k1
  rw [hn] at ca
  rw [hm] at cb
  have lx := limbs_len_le (val a) a.length (val_lt a h1.2)
  have ly := limbs_len_le (val b) b.length (val_lt b k1.2)
  rw [hn] at lx
  rw [hm] at ly
  have hpos : 0 < (limbs m).length := List.length_pos_iff.2 fun h => by have := limbs_eq_nil.1 h; omega
  have CM : Hid (∀ v1 v2 w, NatAt w v1 (limbs n) → NatAt w v2 (limbs m) → Calls Try.prog 29 #[v1, v2] w fun e w' => e = .returned (.int .i64 (-1)) ∧ Below w.heap.size w w') := Lib.hid (fun v1 v2 w h h' => by
    have := cmp_any v1 v2 _ _ w h h' (by omega) (by omega)
    rw [val_limbs, val_limbs, cmpN_lt hnm] at this; exact this)
  have CL : Hid (∀ v w, NatAt w v (limbs n) → Calls Try.prog 60 #[v] w fun e w' => ∃ v', e = .returned v' ∧ NatAt w' v' (limbs n) ∧ Below w.heap.size w w') := Lib.hid (fun v w h => clone_any v _ w h (by omega))
  have CA := Lib.hid ca
  have CB := Lib.hid cb
  have HF : Hid (n / m = 0 ∧ n % m = n ∧ n < 4294967296 ^ M ∧ 0 < 4294967296 ^ L) := Lib.hid ⟨hq, hr, hnM, Nat.pow_pos (by omega)⟩
  have hzz : (((limbs m).length : Int) == 0) = false := by rw [beq_eq_false_iff_ne]; omega
  clear ca cb h1 k1 hn hm h3 k3 hq hr hnM hnm lx ly
  go_enter Try.func59, Try.ntmps59
  go_wp2_with (first
    | (go_at_call 44; ((with_reducible refine CA.out.mono ?_); rintro e w1 ⟨v1, rfl, hv1, rfl⟩))
    | (go_at_call 44; ((with_reducible refine CB.out.mono ?_); rintro e w2 ⟨v2, rfl, hv2, rfl⟩; obtain ⟨p2, c2, rfl⟩ := hv2.shape))
    | (go_at_call 29; ((with_reducible refine (CM.out _ _ _ hv1 hv2).mono ?_); rintro e w3 ⟨rfl, hb3⟩))
    | (go_at_call 60; ((with_reducible refine (CL.out _ _ (hv1.keep hb3)).mono ?_); rintro e w4 ⟨v4, rfl, hv4, hb4⟩)))
  go_ret3
  obtain ⟨f1, f2, f3, f4⟩ := HF.out
  refine ⟨_, _, rfl, ?_, ?_, bel2' hb3 hb4⟩
  · rw [f1]; exact ⟨NatAt.nil _, f4⟩
  · rw [f2]; exact ⟨hv4, f3⟩

end Go.Proofs.Ytlhkjkhbgebgiaa

namespace Go.Proofs.Ytlhkjkhbgebgiaa
open Go.RowKit Go.Proofs.Kit Go.Proofs.Nums

set_option maxHeartbeats 2000000 in
theorem div_one {va vb : Value} {n m L M : Nat} {w : World} (ha : Num w va n L) (hb : Num w vb m M) (hL : L ≤ 1000000) (hnm : m ≤ n) (hm0 : 0 < m) (hm1 : m < 4294967296) :
    Calls Try.prog 59 #[va, vb] w (DivRet n m L M w) := by
  have hnL : n / m < 4294967296 ^ L := Nat.lt_of_le_of_lt (Nat.div_le_self _ _) ha.lt
  have hmM : n % m < 4294967296 ^ M := Nat.lt_trans (Nat.mod_lt _ hm0) hb.lt
  obtain ⟨a, h1, hn, h3⟩ := ha
  obtain ⟨b, k1, hm, k3⟩ := hb
  have ca := trim_any va a w h1
  have cb := trim_any vb b w k1
  rw [hn] at ca
  rw [hm] at cb
  have lx := limbs_len_le (val a) a.length (val_lt a h1.2)
  rw [hn] at lx
  have hlim : limbs m = [m] := by rw [limbs_pos m (by omega), Nat.mod_eq_of_lt hm1, Nat.div_eq_of_lt hm1]; rfl
  rw [hlim] at cb
  obtain ⟨c, hc⟩ : ∃ c, cmpN n m = c := ⟨_, rfl⟩
  have hc0 : 0 ≤ c := by rw [← hc]; unfold cmpN; rw [if_neg (by omega)]; split <;> omega
  have CM : Hid (∀ v1 v2 w, NatAt w v1 (limbs n) → NatAt w v2 [m] → Calls Try.prog 29 #[v1, v2] w fun e w' => e = .returned (.int .i64 c) ∧ Below w.heap.size w w') := Lib.hid (fun v1 v2 w h h' => by
    have := cmp_any v1 v2 _ _ w h h' (by omega) (by simp)
    rw [val_limbs, ← hlim, val_limbs, hc] at this; exact this)
  have SD : Hid (∀ v w, NatAt w v (limbs n) → Calls Try.prog 69 #[v, .int .u64 m] w fun e w' => ∃ v', e = .returned (.tuple #[v', .int .u64 ((n % m : Nat) : Int)]) ∧ (∃ q, NatAt w' v' q ∧ val q = n / m ∧ q.length ≤ 1000000) ∧ Below w.heap.size w w') := Lib.hid (fun v w h => by
    have := sdiv_any v _ m w h (by omega) hm0 hm1
    rw [val_limbs] at this
    exact this.mono fun e w' ⟨v', e1, ⟨q, q1, q2, q3, _⟩, e3⟩ => ⟨v', e1, ⟨q, q1, q2, by omega⟩, e3⟩)
  have NO : Hid (∀ v w q, NatAt w v q → Hid (val q = n / m ∧ q.length ≤ 1000000) → Calls Try.prog 45 #[v] w fun e w' => ∃ v', e = .returned v' ∧ NatAt w' v' (limbs (n / m)) ∧ Below w.heap.size w w') := Lib.hid (fun v w q h h' => by
    have := norm_any v q w h (by have := h'.out.2; omega)
    rw [h'.out.1] at this; exact this)
  obtain ⟨R, hR⟩ : ∃ R, n % m = R := ⟨_, rfl⟩
  rw [hR] at SD
  have OF : Hid (∀ w, Calls Try.prog 31 #[.int .u64 R] w fun e w' => ∃ v', e = .returned v' ∧ NatAt w' v' (limbs R) ∧ Below w.heap.size w w') := Lib.hid (fun w => of_any R w (by have := Nat.mod_lt n hm0; omega))
  have CA := Lib.hid ca
  have CB := Lib.hid cb
  have HF : Hid (n % m = R ∧ n / m < 4294967296 ^ L ∧ n % m < 4294967296 ^ M) := Lib.hid ⟨hR, hnL, hmM⟩
  clear ca cb h1 k1 hn hm h3 k3 hnL hmM hnm lx hR hlim hc
  go_enter Try.func59, Try.ntmps59
  go_wp2_with (first
    | (go_at_call 44; ((with_reducible refine CA.out.mono ?_); rintro e w1 ⟨v1, rfl, hv1, rfl⟩))
    | (go_at_call 44; ((with_reducible refine CB.out.mono ?_); rintro e w2 ⟨v2, rfl, hv2, rfl⟩; obtain ⟨p2, c2, rfl⟩ := hv2.shape; rw [show [m].length = 1 from rfl] at hv2))
    | (go_at_call 29; ((with_reducible refine (CM.out _ _ _ hv1 hv2).mono ?_); rintro e w3 ⟨rfl, hb3⟩; have hv2b := hv2.keep hb3; obtain ⟨b1, o1, rfl, hk1, hm1, q1⟩ := hv2b.cellAt 0 (by simp); rw [show nth [m] 0 = m from rfl, Nat.add_zero] at q1; rw [show [m].length = 1 from rfl] at hk1; clear hv2b hv2))
    | (go_at_call 69; ((with_reducible refine (SD.out _ _ (hv1.keep hb3)).mono ?_); rintro e w4 ⟨v4, rfl, ⟨q, hq1, hq2⟩, hb4⟩; have hb4' := bel2' hb3 hb4; have HQ2 := Lib.hid hq2; clear hq2))
    | (go_at_call 45; ((with_reducible refine (NO.out _ _ _ hq1 HQ2).mono ?_); rintro e w5 ⟨v5, rfl, hv5, hb5⟩; have hb5' := bel2' hb4' hb5))
    | (go_at_call 31; ((with_reducible refine (OF.out _).mono ?_); rintro e w6 ⟨v6, rfl, hv6, hb6⟩; have hb6' := bel2' hb5' hb6)))
  go_ret3
  obtain ⟨f1, f2, f3⟩ := HF.out
  exact ⟨_, _, rfl, ⟨hv5.keep hb6, f2⟩, ⟨by rw [f1]; exact hv6, f3⟩, hb6'⟩

end Go.Proofs.Ytlhkjkhbgebgiaa

namespace Go.Proofs.Ytlhkjkhbgebgiaa
open Go.RowKit Go.Proofs.Kit Go.Proofs.Nums

set_option maxHeartbeats 4000000 in
theorem div_long {va vb : Value} {n m L M : Nat} {w : World} (ha : Num w va n L) (hb : Num w vb m M) (hL : L ≤ 900000) (hM : M ≤ 1000000) (hnm : m ≤ n) (hm1 : 4294967296 ≤ m) :
    Calls Try.prog 59 #[va, vb] w (DivRet n m L M w) := by
  have hm0 : 0 < m := by omega
  have hnL : n / m < 4294967296 ^ L := Nat.lt_of_le_of_lt (Nat.div_le_self _ _) ha.lt
  have hmM : n % m < 4294967296 ^ M := Nat.lt_trans (Nat.mod_lt _ hm0) hb.lt
  obtain ⟨a, h1, hn, h3⟩ := ha
  obtain ⟨b, k1, hm, k3⟩ := hb
  have ca := trim_any va a w h1
  have cb := trim_any vb b w k1
  rw [hn] at ca
  rw [hm] at cb
  have lx := limbs_len_le (val a) a.length (val_lt a h1.2)
  have ly := limbs_len_le (val b) b.length (val_lt b k1.2)
  rw [hn] at lx
  rw [hm] at ly
  have hmn : (limbs m).length ≤ (limbs n).length := by
    rcases Nat.lt_or_ge (limbs n).length (limbs m).length with h | h
    · have := len_lt h; omega
    · exact h
  have hnlt := limbs_lt_pow n
  have hpow := pow_le_limbs m (by omega)
  have hlm2 : 2 ≤ (limbs m).length := by
    rcases Nat.lt_or_ge (limbs m).length 2 with h | h
    · exfalso
      have h5 := limbs_lt_pow m
      have h6 : 4294967296 ^ (limbs m).length ≤ 4294967296 ^ 1 := Nat.pow_le_pow_right (by omega) (by omega)
      omega
    · exact h
  obtain ⟨c, hc⟩ : ∃ c, cmpN n m = c := ⟨_, rfl⟩
  have hc0 : 0 ≤ c := by rw [← hc]; unfold cmpN; rw [if_neg (by omega)]; split <;> omega
  obtain ⟨x, hx⟩ : ∃ x, limbs n = x := ⟨_, rfl⟩
  obtain ⟨y, hy⟩ : ∃ y, limbs m = y := ⟨_, rfl⟩
  have hxv : val x = n := by rw [← hx, val_limbs]
  have hyv : val y = m := by rw [← hy, val_limbs]
  have hyl : Lim y := by rw [← hy]; exact limbs_lim m
  have hyn : 0 < nth y (y.length - 1) := by
    have h5 := limbs_norm m
    rw [hy] at h5
    unfold Norm at h5
    rcases Nat.eq_zero_or_pos (nth y (y.length - 1)) with h | h
    · exfalso
      apply h5
      rw [hy] at hlm2
      rw [List.getLast?_eq_getElem?, List.getElem?_eq_getElem (by omega), ← nth_lt, h]
    · exact h
  rw [hx] at ca lx hmn hnlt
  rw [hy] at cb ly hmn hlm2 hpow
  have htop := hyl.nth (y.length - 1)
  obtain ⟨s, hs, hsb, ht1, ht2⟩ := lz_bounds hyn htop
  have hzl := shift_len y hy.symm (by omega) ht2 (by omega)
  have hzt := shift_top y _ hy.symm rfl (by omega) hzl ht1
  obtain ⟨z, hz⟩ : ∃ z, limbs (m * 2 ^ s) = z := ⟨_, rfl⟩
  rw [hz] at hzl hzt
  have hzv : val z = m * 2 ^ s := by rw [← hz, val_limbs]
  have CM : Hid (∀ v1 v2 w, NatAt w v1 x → NatAt w v2 y → Calls Try.prog 29 #[v1, v2] w fun e w' => e = .returned (.int .i64 c) ∧ Below w.heap.size w w') := Lib.hid (fun v1 v2 w h h' => by
    have := cmp_any v1 v2 _ _ w h h' (by omega) (by omega)
    rw [hxv, hyv, hc] at this; exact this)
  have LZ := Lib.hid (fun w => lz_any (nth y (y.length - 1)) s w htop hsb)
  have LX : Hid (∀ v w, NatAt w v x → Calls Try.prog 71 #[v, .int .i64 s] w fun e w' => ∃ o, e = .returned (.slice (some ⟨w.heap.size, 0, none⟩) (x.length + 1) (x.length + 1)) ∧ OwnNat w' w.heap.size w.heap.size (x.length + 1) (x.length + 1) o ∧ Hid (val o = n * 2 ^ s) ∧ Below w.heap.size w w') := Lib.hid (fun v w h => by
    have := left_any v x s w h (by omega) hs
    rw [hxv] at this; exact this)
  have LY : Hid (∀ v w, NatAt w v y → Calls Try.prog 71 #[v, .int .i64 s] w fun e w' => ∃ v' o, e = .returned v' ∧ NatAt w' v' o ∧ Hid (val o = m * 2 ^ s) ∧ v'.ownBlock = some w.heap.size ∧ Below w.heap.size w w') := Lib.hid (fun v w h => by
    have := left_any v y s w h (by omega) hs
    rw [hyv] at this
    exact this.mono fun e w' ⟨o, e1, e2, e3, e4⟩ => ⟨_, o, e1, e2.read, e3, rfl, e4⟩)
  have TZ : Hid (∀ v o w, NatAt w v o → Hid (val o = m * 2 ^ s) → Calls Try.prog 44 #[v] w fun e w' => ∃ v', e = .returned v' ∧ NatAt w v' z ∧ w = w' ∧ (v'.ownBlock = none ∨ v'.ownBlock = v.ownBlock)) := Lib.hid (fun v o w h h' => by
    have := trim_at v o w h
    rw [h'.out, hz] at this; exact this)
  have LO : Hid (∀ vz o B g w, OwnNat w B g (x.length + 1) (x.length + 1) o → NatAt w vz z → Hid (vz.ownBlock ≠ some g) → B ≤ w.heap.size → Hid (val o = n * 2 ^ s) →
      Calls Try.prog 72 #[.slice (some ⟨g, 0, none⟩) (x.length + 1) (x.length + 1), vz] w fun e w' => ∃ v' q u', e = .returned v' ∧ NatAt w' v' q ∧ OwnNat w' B g (x.length + 1) (x.length + 1) u' ∧ Hid (val q = n / m ∧ val u' / 2 ^ s = n % m ∧ q.length ≤ 1000001) ∧ Below B w w') := Lib.hid (fun vz o B g w hO hZ hg hB hv => by
    have := long_any vz o z B g (x.length + 1) w (by rw [hO.1]; exact hO) hZ hg.out hB (by rw [hzl]; exact hlm2) (by rw [hO.1, hzl]; omega) (by rw [hO.1]; omega) hzt
      (by rw [hO.1, hzl, hzv]; exact long_start hO.2.1 hO.1 hv.out hnlt hpow (by omega) hmn)
    rw [hO.1] at this
    refine this.mono ?_
    rintro e w' ⟨v', q, u', e1, e2, e3, e4, e5⟩
    have e6 := e4.out
    rw [hv.out, hzv] at e6
    have e7 := long_end e6.1 e6.2.1
    exact ⟨v', q, u', e1, e2, e3, Lib.hid ⟨e7.1, e7.2, Nat.le_trans e6.2.2 (by omega)⟩, e5⟩)
  have NO : Hid (∀ v w q, NatAt w v q → Hid (q.length ≤ 1000001) → Calls Try.prog 45 #[v] w fun e w' => ∃ v', e = .returned v' ∧ NatAt w' v' (limbs (val q)) ∧ Below w.heap.size w w') := Lib.hid (fun v w q h h' => norm_any v q w h (Nat.le_trans h'.out (by omega)))
  have RI : Hid (∀ v w o, NatAt w v o → Hid (o.length = x.length + 1) → Calls Try.prog 73 #[v, .int .i64 s] w fun e w' => ∃ v' o', e = .returned v' ∧ NatAt w' v' o' ∧ Hid (val o' = val o / 2 ^ s ∧ o'.length = o.length) ∧ Below w.heap.size w w') := Lib.hid (fun v w o h h' => right_any v o s w h (by rw [h'.out]; omega) hs)
  have HF : Hid (n / m < 4294967296 ^ L ∧ n % m < 4294967296 ^ M ∧ x.length + 1 ≤ 1000001) := Lib.hid ⟨hnL, hmM, by omega⟩
  have CA := Lib.hid ca
  have CB := Lib.hid cb
  have hzz : ((y.length : Int) == 0) = false := by rw [beq_eq_false_iff_ne]; omega
  have hz1 : ((y.length : Int) == 1) = false := by rw [beq_eq_false_iff_ne]; omega
  have HY1 : Hid (y.length - 1 < y.length) := Lib.hid (by omega)
  obtain ⟨Y1, hY1⟩ : ∃ Y1, y.length - 1 = Y1 := ⟨_, rfl⟩
  have hY1i : (y.length : Int) - 1 = (Y1 : Int) := by omega
  have hY1l : Y1 < y.length := by omega
  rw [hY1] at LZ htop
  clear ca cb h1 k1 hn hm h3 k3 hnL hmM hnm lx hc hm1 hnlt hpow hx hy hxv hyv hyl hyn hsb ht1 ht2 hzl hzt hz hzv hY1 hmn HY1
  go_enter Try.func59, Try.ntmps59
  go_wp2_with (first
    | (go_at_call 44; ((with_reducible refine CA.out.mono ?_); rintro e w1 ⟨v1, rfl, hv1, rfl⟩))
    | (go_at_call 44; ((with_reducible refine CB.out.mono ?_); rintro e w2 ⟨v2, rfl, hv2, rfl⟩; obtain ⟨p2, c2, rfl⟩ := hv2.shape))
    | (go_at_call 29; ((with_reducible refine (CM.out _ _ _ hv1 hv2).mono ?_); rintro e w3 ⟨rfl, hb3⟩; have hv2b := hv2.keep hb3; have hv1b := hv1.keep hb3; obtain ⟨b1, o1, rfl, hk1, hm1, q1⟩ := hv2b.cellAt Y1 hY1l; clear hv1 hv2))
    | (go_at_call 70; ((with_reducible refine (LZ.out _).mono ?_); rintro e w4 ⟨rfl, rfl⟩))
    | (go_at_call 71; ((with_reducible refine (LX.out _ _ hv1b).mono ?_); rintro e w5 ⟨o5, rfl, hv5, h5, hb5⟩; have hb5' := bel2' hb3 hb5; have hv2c := hv2b.keep hb5; have hlt5 := hv5.lt; have HV5 := Lib.hid hv5; clear hv1b hv2b hv5))
    | (go_at_call 71; ((with_reducible refine (LY.out _ _ hv2c).mono ?_); rintro e w6 ⟨v6, o6, rfl, hv6, h6, hob6, hb6⟩; have hb6' := bel2' hb5' hb6; have hv5c := HV5.out.keep hb6))
    | (go_at_call 44; ((with_reducible refine (TZ.out _ _ _ hv6 h6).mono ?_); rintro e w7 ⟨v7, rfl, hv7, rfl, hob7⟩; have hne7 : Hid (v7.ownBlock ≠ some w3.heap.size) := Lib.hid (ob_ne hob7 hob6 (by omega)); have hle7 : w3.heap.size ≤ w6.heap.size := Nat.le_trans hb5.size hb6.size))
    | (go_at_call 72; ((with_reducible refine (LO.out _ _ _ _ _ hv5c hv7 hne7 hle7 h5).mono ?_); rintro e w8 ⟨v8, q8, u8, rfl, hv8, hu8, h8, hb8⟩; have hb8' := hb6'.trans (hb8.mono hb3.size); have hq8 : Hid (q8.length ≤ 1000001) := Lib.hid h8.out.2.2; have hul8 : Hid (u8.length = x.length + 1) := Lib.hid hu8.1; have hr8 := hu8.read; clear hu8))
    | (go_at_call 45; ((with_reducible refine (NO.out _ _ _ hv8 hq8).mono ?_); rintro e w9 ⟨v9, rfl, hv9, hb9⟩; have hb9' := bel2' hb8' hb9; have hr9 := hr8.keep hb9; clear hv8))
    | (go_at_call 73; ((with_reducible refine (RI.out _ _ _ hr9 hul8).mono ?_); rintro e w10 ⟨v10, o10, rfl, hv10, h10, hb10⟩; have hb10' := bel2' hb9' hb10; have hv9b := hv9.keep hb10; have hl10 : Hid (o10.length ≤ 1000001) := Lib.hid (by rw [h10.out.2, hul8.out]; exact HF.out.2.2)))
    | (go_at_call 45; ((with_reducible refine (NO.out _ _ _ hv10 hl10).mono ?_); rintro e w11 ⟨v11, rfl, hv11, hb11⟩; have hb11' := bel2' hb10' hb11)))
  go_ret3
  obtain ⟨f1, f2, f3⟩ := HF.out
  obtain ⟨g1, g2, g3⟩ := h8.out
  rw [g1] at hv9b
  rw [h10.out.1, g2] at hv11
  exact ⟨_, _, rfl, ⟨hv9b.keep hb11, f1⟩, ⟨hv11, f2⟩, hb11'⟩

end Go.Proofs.Ytlhkjkhbgebgiaa

namespace Go.Proofs.Ytlhkjkhbgebgiaa
open Go.RowKit Go.Proofs.Kit Go.Proofs.Nums

theorem div_num {va vb : Value} {n m L M : Nat} {w : World} (ha : Num w va n L) (hb : Num w vb m M) (hL : L ≤ 900000) (hM : M ≤ 900000) (hm : 0 < m) :
    Calls Try.prog 59 #[va, vb] w (DivRet n m L M w) := by
  rcases Nat.lt_or_ge n m with h | h
  · exact div_less ha hb (by omega) (by omega) h
  · rcases Nat.lt_or_ge m 4294967296 with h2 | h2
    · exact div_one ha hb (by omega) h hm h2
    · exact div_long ha hb hL (by omega) h h2

theorem limbs_len_pos {n : Nat} (h : 0 < n) : 0 < (limbs n).length := List.length_pos_iff.2 fun e => by have := limbs_eq_nil.1 e; omega

set_option maxHeartbeats 2000000 in
theorem gcd_num {va vb : Value} {n m L : Nat} {w : World} (ha : Num w va n L) (hb : Num w vb m L) (hL : L ≤ 900000) :
    Calls Try.prog 58 #[va, vb] w fun e w' => ∃ v', e = .returned v' ∧ Nrm w' v' (Nat.gcd n m) L ∧ Below w.heap.size w w' := by
  obtain ⟨G, hG⟩ : ∃ G, Nat.gcd n m = G := ⟨_, rfl⟩
  have HG := Lib.hid hG
  rw [hG]
  have HA := Lib.hid ha
  have HB := Lib.hid hb
  clear hG ha hb
  go_enter Try.func58, Try.ntmps58
  go_wp2_with (first
    | (go_at_call 45; ((with_reducible refine (norm_num HA.out (by omega)).mono ?_); rintro e w1 ⟨v1, rfl, hv1, hb1⟩; have hbk := HB.out.keep hb1))
    | (go_at_call 45; ((with_reducible refine (norm_num hbk (by omega)).mono ?_); rintro e w2 ⟨v2, rfl, hv2, hb2⟩; have hb2' := bel2' hb1 hb2; have hv1b := hv1.keep hb2; clear hbk hv1)))
  go_loopw [0, 1] (fun av bv wr => ∃ x y : Nat, Nrm wr av x L ∧ Nrm wr bv y L ∧ Hid (Nat.gcd x y = G) ∧ Below w.heap.size w wr) (fun _ bv wr => limbNum wr bv)
  case atStart => exact ⟨n, m, hv1b, hv2, HG, hb2'⟩
  case round =>
    obtain ⟨x, y, hx, hy, hgc, hbel⟩ := hrel
    obtain ⟨p2, c2, rfl⟩ := hy.1.shape
    have hlen := hy.len
    by_cases h0 : 0 < y
    · have hpos := limbs_len_pos h0
      have HN : Hid (Nat.gcd y (x % y) = G) := Lib.hid (by rw [gcd_step]; exact hgc.out)
      have D := Lib.hid (div_num hx.num hy.num hL hL h0)
      have HM := Lib.hid (limbNum_eq hy.1)
      have HLT := Lib.hid (Nat.mod_lt x h0)
      have HY := Lib.hid hy
      clear hx hy h0
      go_wp2_with (go_at_call 59; ((with_reducible refine D.out.mono ?_); rintro e w4 ⟨vq, vr, rfl, hvq, hvr, hb4⟩))
      go_roundw
      case rel => exact ⟨y, x % y, HY.out.keep hb4, hvr, HN, bel2' hbel hb4⟩
      case measure => rw [HM.out, limbNum_eq hvr.1]; exact HLT.out
    · obtain rfl : y = 0 := by omega
      have HX : Hid (x = G) := Lib.hid (by rw [← hgc.out, Nat.gcd_zero_right])
      have HXX := Lib.hid hx
      have hzz : (limbs 0).length = 0 := rfl
      clear hx hy h0
      go_wp2_with fail
      go_ret
      exact ⟨_, rfl, by rw [← HX.out]; exact HXX.out, hbel⟩

theorem bits_len_limbs {n : Nat} (h : 0 < n) : (bitsN n).length = 32 * ((limbs n).length - 1) + (bitsN (nth (limbs n) ((limbs n).length - 1))).length := by
  obtain ⟨y, hy⟩ : ∃ y, limbs n = y := ⟨_, rfl⟩
  have hyl : Lim y := by rw [← hy]; exact limbs_lim n
  have hv : val y = n := by rw [← hy, val_limbs]
  have h0 : 0 < y.length := by rw [← hy]; exact limbs_len_pos h
  rw [hy]
  have h1 := top_le y h0
  have h2 := top_lt y hyl h0
  rw [hv, base_pow] at h1 h2
  obtain ⟨t, ht⟩ : ∃ t, nth y (y.length - 1) = t := ⟨_, rfl⟩
  rw [ht] at h1 h2 ⊢
  have ht0 : t ≠ 0 := by
    intro e
    have h5 := limbs_norm n
    rw [hy] at h5
    unfold Norm at h5
    apply h5
    rw [List.getLast?_eq_getElem?, List.getElem?_eq_getElem (by omega), ← nth_lt, ht, e]
  have h3 := bits_lt_pow t
  have h4 := pow_le_bits t ht0
  obtain ⟨k, hk⟩ : ∃ k, (bitsN t).length = k + 1 := ⟨(bitsN t).length - 1, by have := bits_len_pos (Nat.pos_of_ne_zero ht0); omega⟩
  rw [hk] at h3 h4 ⊢
  rw [Nat.add_sub_cancel] at h4
  obtain ⟨E, hE⟩ : ∃ E, 32 * (y.length - 1) = E := ⟨_, rfl⟩
  rw [hE] at h1 h2 ⊢
  apply Nat.le_antisymm
  · apply bits_len_le
    have h6 : 2 ^ E * (t + 1) ≤ 2 ^ E * 2 ^ (k + 1) := Nat.mul_le_mul_left _ h3
    rw [← Nat.pow_add] at h6
    omega
  · rcases Nat.lt_or_ge (bitsN n).length (E + (k + 1)) with h6 | h6
    · exfalso
      have h7 := bits_lt_pow n
      have h8 : 2 ^ (bitsN n).length ≤ 2 ^ (E + k) := Nat.pow_le_pow_right (by omega) (by omega)
      have h9 : 2 ^ E * 2 ^ k ≤ 2 ^ E * t := Nat.mul_le_mul_left _ h4
      rw [← Nat.pow_add] at h9
      omega
    · exact h6

set_option maxHeartbeats 2000000 in
theorem bits_num {va : Value} {n L : Nat} {w : World} (ha : Num w va n L) (hL : L ≤ 1000000) :
    Calls Try.prog 56 #[va] w fun e w' => e = .returned (.int .i64 ((bitsN n).length : Nat)) ∧ Below w.heap.size w w' := by
  obtain ⟨a, h1, hn, h3⟩ := ha
  have ca := trim_any va a w h1
  have lx := limbs_len_le (val a) a.length (val_lt a h1.2)
  rw [hn] at ca lx
  rcases Nat.eq_zero_or_pos n with h0 | h0
  · subst h0
    rw [limbs_zero] at ca
    have CA := Lib.hid ca
    clear h1 hn h3 ca lx
    go_enter Try.func56, Try.ntmps56
    go_wp2_with (go_at_call 44; ((with_reducible refine CA.out.mono ?_); rintro e w1 ⟨v1, rfl, hv1, rfl⟩; obtain ⟨p1, c1, rfl⟩ := hv1.shape; clear hv1))
    go_ret
    exact ⟨rfl, Below.refl _ _⟩
  · have hl := bits_len_limbs h0
    have hp := limbs_len_pos h0
    have hlim := limbs_lim n
    obtain ⟨y, hy⟩ : ∃ y, limbs n = y := ⟨_, rfl⟩
    rw [hy] at ca lx hl hp hlim
    obtain ⟨Y1, hY1⟩ : ∃ Y1, y.length - 1 = Y1 := ⟨_, rfl⟩
    rw [hY1] at hl
    have htop := hlim.nth Y1
    have hb32 := bits_len_le (nth y Y1) 32 (by omega)
    have LE : Hid (∀ w, Calls Try.prog 68 #[.int .u32 (nth y Y1 : Nat)] w fun e w' => e = .returned (.int .i64 ((bitsN (nth y Y1)).length : Nat)) ∧ w = w') := Lib.hid (fun w =>
      (Try.bits_Len32 (nth y Y1 : Int) w (by omega) (by omega)).mono fun e w' ⟨e1, e2⟩ => ⟨by rw [e1, ← bitLen_len _ htop]; rfl, e2.symm⟩)
    obtain ⟨B, hB⟩ : ∃ B, (bitsN (nth y Y1)).length = B := ⟨_, rfl⟩
    rw [hB] at LE hl hb32
    have HR : Hid ((bitsN n).length = 32 * Y1 + B) := Lib.hid hl
    have hY1i : (y.length : Int) - 1 = (Y1 : Int) := by omega
    have hY1l : Y1 < y.length := by omega
    have hYb : Y1 ≤ 1000000 := by omega
    have hzz : ((y.length : Int) == 0) = false := by rw [beq_eq_false_iff_ne]; omega
    have CA := Lib.hid ca
    clear h1 hn h3 ca hl hlim hy hB hY1 h0
    go_enter Try.func56, Try.ntmps56
    go_wp2_with (first
      | (go_at_call 44; ((with_reducible refine CA.out.mono ?_); rintro e w1 ⟨v1, rfl, hv1, rfl⟩; obtain ⟨p1, c1, rfl⟩ := hv1.shape; obtain ⟨b1, o1, rfl, hk1, hm1, q1⟩ := hv1.cellAt Y1 hY1l; clear hv1))
      | (go_at_call 68; ((with_reducible refine (LE.out _).mono ?_); rintro e w2 ⟨rfl, rfl⟩)))
    go_ret
    exact ⟨ret_val (by rw [HR.out]; go_num), Below.refl _ _⟩

end Go.Proofs.Ytlhkjkhbgebgiaa
