/- Awake; rows of integers; the confirmed meters. -/
import Derived.Test.YtlhkjkhbgebgiaaV4
namespace Go.Proofs.Nums

theorem Mt.conf_frac (s : Go.Proofs.Nums.Mt) (k d : Nat) (hk : 0 < k) (hd : 0 < d) : Go.Proofs.Ytlhkjkhbgebgiaa.Mt.conf s (Q.mk' false k d) = (s.pr || decide (4294967296 * (d : Int) ≤ s.best * (k : Int))) := by
  unfold Go.Proofs.Ytlhkjkhbgebgiaa.Mt.conf
  rw [Q.mk'_pos hk hd]
  congr 1
  have hg := Nat.gcd_pos_of_pos_left d hk
  obtain ⟨g, hgg⟩ : ∃ g, Nat.gcd k d = g := ⟨_, rfl⟩
  obtain ⟨x, hx⟩ : g ∣ k := by rw [← hgg]; exact Nat.gcd_dvd_left k d
  obtain ⟨y, hy⟩ : g ∣ d := by rw [← hgg]; exact Nat.gcd_dvd_right k d
  rw [hgg] at hg ⊢
  have e1 : k / g = x := by rw [hx, Nat.mul_div_cancel_left _ hg]
  have e2 : d / g = y := by rw [hy, Nat.mul_div_cancel_left _ hg]
  simp only [e1, e2]
  have hki : (k : Int) = (g : Int) * (x : Int) := by rw [hx]; exact Int.natCast_mul g x
  have hdi : (d : Int) = (g : Int) * (y : Int) := by rw [hy]; exact Int.natCast_mul g y
  rw [hki, hdi, decide_eq_decide]
  have hgi : (0 : Int) < g := by omega
  have r1 : 4294967296 * ((g : Int) * (y : Int)) = (g : Int) * (4294967296 * (y : Int)) := by grind
  have r2 : s.best * ((g : Int) * (x : Int)) = (g : Int) * (s.best * (x : Int)) := by grind
  rw [r1, r2]
  exact ⟨fun h => Int.mul_le_mul_of_nonneg_left h (by omega), fun h => Int.le_of_mul_le_mul_left h hgi⟩

theorem Mt.conf_next {s : Go.Proofs.Nums.Mt} (h : s.Ok) {o : Int} (h2 : o ≤ s.u) {q : Q} (hc : Go.Proofs.Ytlhkjkhbgebgiaa.Mt.conf s q = true) : Go.Proofs.Ytlhkjkhbgebgiaa.Mt.conf (s.next o) q = true := by
  unfold Go.Proofs.Ytlhkjkhbgebgiaa.Mt.conf at hc ⊢
  rw [Bool.or_eq_true] at hc ⊢
  rcases hc with hc | hc
  · exact .inl (Mt.pr_mono h h2 hc)
  · right
    rw [decide_eq_true_eq] at hc ⊢
    exact Int.le_trans hc (Int.mul_le_mul_of_nonneg_right (Mt.best_mono s o) (by omega))

theorem Mt.conf_more {s : Go.Proofs.Nums.Mt} (h : s.Ok) {k k' d : Nat} (hk : 0 < k) (hd : 0 < d) (hkk : k ≤ k') (hc : Go.Proofs.Ytlhkjkhbgebgiaa.Mt.conf s (Q.mk' false k d) = true) : Go.Proofs.Ytlhkjkhbgebgiaa.Mt.conf s (Q.mk' false k' d) = true := by
  rw [Mt.conf_frac s k d hk hd, Bool.or_eq_true] at hc
  rw [Mt.conf_frac s k' d (by omega) hd, Bool.or_eq_true]
  rcases hc with hc | hc
  · exact .inl hc
  · right
    rw [decide_eq_true_eq] at hc ⊢
    have := h.b1
    exact Int.le_trans hc (Int.mul_le_mul_of_nonneg_left (by omega) (by omega))

theorem frac_facts (k d : Nat) (hk : 0 < k) (hd : 0 < d) (hkd : k ≤ d) : (Q.mk' false k d).Nf ∧ (Q.mk' false k d).neg = false ∧ 0 < (Q.mk' false k d).n ∧ (Q.mk' false k d).n ≤ (Q.mk' false k d).d := by
  refine ⟨Q.mk'_nf _ _ _, ?_⟩
  rw [Q.mk'_pos hk hd]
  have hg := Nat.gcd_pos_of_pos_left d hk
  exact ⟨rfl, Nat.div_pos (Nat.le_of_dvd hk (Nat.gcd_dvd_left k d)) hg, Nat.div_le_div_right hkd⟩

end Go.Proofs.Nums
namespace Go.Proofs.Ytlhkjkhbgebgiaa
open Go.RowKit Go.Proofs.Kit Go.Proofs.Nums

/-- A row of integers. -/
def IntsAt (w : World) (v : Value) (l : List Int) : Prop := RowAt w v (l.map (Value.int .i64))
theorem IntsAt.keep {w w' : World} {v : Value} {l : List Int} (h : IntsAt w v l) (hb : Below w.heap.size w w') : IntsAt w' v l := RowAt.keep h hb
theorem IntsAt.shape {w : World} {v : Value} {l : List Int} (h : IntsAt w v l) : ∃ p c, v = .slice p l.length c := by
  obtain ⟨p, cap, h1, _⟩ := h
  rw [List.length_map] at h1
  exact ⟨p, cap, h1⟩
theorem IntsAt.cellAt {w : World} {p : Option Addr} {n c : Nat} {l : List Int} (h : IntsAt w (.slice p n c) l) (j : Nat) (hj : j < l.length) :
    ∃ b off, p = some ⟨b, off, none⟩ ∧ l.length ≤ c ∧ c ≤ 9223372036854775807 ∧ w.cell? ⟨b, off + j, none⟩ = some (.int .i64 (l.getD j 0)) := by
  rcases RowAt.cases h with ⟨h1, _⟩ | ⟨_, b, off, k, hv, h2, h3, _, hc⟩
  · have := congrArg List.length h1
    rw [List.length_map] at this
    simp at this
    rw [this] at hj; simp at hj
  · simp only [Value.slice.injEq] at hv
    obtain ⟨rfl, _, rfl⟩ := hv
    rw [List.length_map] at h2
    refine ⟨b, off, rfl, h2, h3, hc j _ ?_⟩
    rw [List.getElem?_map, List.getElem?_eq_getElem hj, List.getD_eq_getElem?_getD, List.getElem?_eq_getElem hj]
    rfl

theorem Blk.off {b : Nat} {cs : Array Value} {w w' : World} (h : Blk b cs w) (hh : w'.heap[b]? = w.heap[b]?) (hs : w.heap.size ≤ w'.heap.size) : Blk b cs w' :=
  ⟨Nat.lt_of_lt_of_le h.1 hs, fun o => (World.cell?_of_block (a := ⟨b, o, none⟩) hh).trans (h.2.1 o), fun o => (World.frozen?_of_block (a := ⟨b, o, none⟩) hh).trans (h.2.2 o)⟩
theorem MeterAt.noLimb {w : World} {H : Nat} {s : Mt} (h : MeterAt w H s) : NoLimb w H := fun o x => by
  rw [h.2.1 o]
  match o with
  | 0 => simp
  | 1 => simp
  | 2 => simp
  | 3 => simp
  | 4 => simp
  | 5 => simp
  | 6 => simp
  | 7 => simp
  | o + 8 => simp
theorem RatN.offH {w w' : World} {v : Value} {q : Q} {L H : Nat} (h : RatN w v q L) (hh : ∀ k, k ≠ H → w'.heap[k]? = w.heap[k]?) (hn : NoLimb w H) : RatN w' v q L := by
  obtain ⟨vn, vd, h1, h2, h3⟩ := h
  exact ⟨vn, vd, h1, h2.off hh hn, h3.off hh hn⟩
theorem MeterAt.keep {w w' : World} {H : Nat} {s : Mt} (h : MeterAt w H s) (hb : Below w.heap.size w w') : MeterAt w' H s := Blk.keep h hb

set_option maxHeartbeats 2000000 in
theorem step_closed {H : Nat} {s : Mt} {o : Int} {w : World} (hm : MeterAt w H s) (h3 : s.seen = s.n) :
    Calls Try.prog 12 #[.pointer (some ⟨H, 0, none⟩), .int .i64 o] w fun e w' => e = .returned (.int .i64 11) ∧ Below w.heap.size w w' := by
  obtain ⟨c0, c1, c2, c3, c4, c5, c6, c7⟩ := hm.eight
  rw [h3] at c3
  obtain ⟨n, hn⟩ : ∃ n, s.n = n := ⟨_, rfl⟩
  rw [hn] at c0 c3
  have n2 : (n == n) = true := by rw [beq_iff_eq]
  clear hm h3 hn c1 c2 c4 c5 c6 c7
  go_enter Try.func12, Try.ntmps12
  go_wp2_with fail
  all_goals go_region
  all_goals go_wp2_with fail
  all_goals go_ret
  all_goals exact ⟨rfl, by first | exact (Below.refl _ _).drew | exact Below.refl _ _⟩

set_option maxRecDepth 100000 in
set_option maxHeartbeats 4000000 in
theorem awake_c (w : World) : Calls Try.prog 15 #[] w fun e w' => e = .returned (.bool true) ∧ Below w.heap.size w w' := by
  have NW : Hid (∀ w, Calls Try.prog 11 #[.agg #[.int .i64 2, .int .i64 1, .int .i64 2]] w fun e w' => ∃ H, e = .returned (.tuple #[.pointer (some ⟨H, 0, none⟩), .int .i64 0]) ∧ MeterAt w' H (Mt.new 2 1 2) ∧ w.heap.size ≤ H ∧ Below w.heap.size w w') := Lib.hid (fun w => new_c (by omega) (by omega) (by omega) (by omega) (by omega) (by omega) w)
  have k0 : (Mt.new 2 1 2).Ok := Mt.new_ok (by omega) (by omega) (by omega) (by omega) (by omega) (by omega)
  have e1 : (Mt.new 2 1 2).next 0 = ⟨2, 1, 2, 1, 1, 5583457484, 5583457484, false⟩ := rfl
  have k1 : (⟨2, 1, 2, 1, 1, 5583457484, 5583457484, false⟩ : Mt).Ok := by rw [← e1]; exact Mt.next_ok k0 (by decide) (by decide) (by decide)
  have e2 : (⟨2, 1, 2, 1, 1, 5583457484, 5583457484, false⟩ : Mt).next 0 = ⟨2, 1, 2, 2, -1, 10608569219, 10608569219, true⟩ := rfl
  have k2 : (⟨2, 1, 2, 2, -1, 10608569219, 10608569219, true⟩ : Mt).Ok := by rw [← e2]; exact Mt.next_ok k1 (by decide) (by decide) (by decide)
  have S1 : Hid (∀ H w, MeterAt w H (Mt.new 2 1 2) → Calls Try.prog 12 #[.pointer (some ⟨H, 0, none⟩), .int .i64 0] w fun e w' => e = .returned (.int .i64 0) ∧ MeterAt w' H ⟨2, 1, 2, 1, 1, 5583457484, 5583457484, false⟩ ∧ OnlyH H w w') := Lib.hid (fun H w h => by
    have := step_c (o := 0) h k0 (by decide) (by decide) (by decide)
    rw [e1] at this
    exact this)
  have S2 : Hid (∀ H w, MeterAt w H ⟨2, 1, 2, 1, 1, 5583457484, 5583457484, false⟩ → Calls Try.prog 12 #[.pointer (some ⟨H, 0, none⟩), .int .i64 0] w fun e w' => e = .returned (.int .i64 0) ∧ MeterAt w' H ⟨2, 1, 2, 2, -1, 10608569219, 10608569219, true⟩ ∧ OnlyH H w w') := Lib.hid (fun H w h => by
    have := step_c (o := 0) h k1 (by decide) (by decide) (by decide)
    rw [e2] at this
    exact this)
  have S3 : Hid (∀ H w, MeterAt w H ⟨2, 1, 2, 2, -1, 10608569219, 10608569219, true⟩ → Calls Try.prog 12 #[.pointer (some ⟨H, 0, none⟩), .int .i64 0] w fun e w' => e = .returned (.int .i64 11) ∧ Below w.heap.size w w') := Lib.hid (fun H w h => step_closed h rfl)
  have V1 : Hid (∀ H w, MeterAt w H ⟨2, 1, 2, 1, 1, 5583457484, 5583457484, false⟩ → Calls Try.prog 17 #[.pointer (some ⟨H, 0, none⟩)] w fun e w' => e = .returned (.int .i64 5583457484) ∧ w = w') := Lib.hid (fun H w h => value_c h)
  have V2 : Hid (∀ H w, MeterAt w H ⟨2, 1, 2, 2, -1, 10608569219, 10608569219, true⟩ → Calls Try.prog 17 #[.pointer (some ⟨H, 0, none⟩)] w fun e w' => e = .returned (.int .i64 10608569219) ∧ w = w') := Lib.hid (fun H w h => value_c h)
  have P1 : Hid (∀ H w, MeterAt w H ⟨2, 1, 2, 1, 1, 5583457484, 5583457484, false⟩ → Calls Try.prog 13 #[.pointer (some ⟨H, 0, none⟩)] w fun e w' => e = .returned (.bool false) ∧ w = w') := Lib.hid (fun H w h => proven_c h)
  have P2 : Hid (∀ H w, MeterAt w H ⟨2, 1, 2, 2, -1, 10608569219, 10608569219, true⟩ → Calls Try.prog 13 #[.pointer (some ⟨H, 0, none⟩)] w fun e w' => e = .returned (.bool true) ∧ w = w') := Lib.hid (fun H w h => proven_c h)
  have N2 : Hid (∀ H w, MeterAt w H ⟨2, 1, 2, 2, -1, 10608569219, 10608569219, true⟩ → Calls Try.prog 23 #[.pointer (some ⟨H, 0, none⟩)] w fun e w' => e = .returned (.int .i64 2) ∧ w = w') := Lib.hid (fun H w h => seen_c h)
  have ff := frac_facts 1 20 (by omega) (by omega) (by omega)
  have FR : Hid (∀ w, Calls Try.prog 20 #[.int .i64 1, .int .i64 20] w (GivesN (Q.mk' false 1 20) 2 w)) := Lib.hid (fun w => fraction_c 1 20 (by omega) (by omega) (by omega) (by omega) w)
  have CF : Hid (∀ H v w, MeterAt w H ⟨2, 1, 2, 2, -1, 10608569219, 10608569219, true⟩ → RatN w v (Q.mk' false 1 20) 2 → Calls Try.prog 14 #[.pointer (some ⟨H, 0, none⟩), v] w fun e w' => e = .returned (.bool true) ∧ Below w.heap.size w w') := Lib.hid (fun H v w h g => conf_c h k2 g ff.1 ff.2.1 ff.2.2.1 ff.2.2.2)
  clear k0 k1 k2 e1 e2 ff
  go_enter Try.func15, Try.ntmps15
  go_wp2_with (first
    | (go_at_call 11; ((with_reducible refine (NW.out _).mono ?_); rintro e w1 ⟨H, rfl, hm1, hH, hb1⟩; have hm1 := Lib.hid hm1))
    | (go_at_call 12; ((with_reducible refine (S1.out _ _ hm1.out).mono ?_); rintro e w2 ⟨rfl, hm2, ho2⟩; have hm2 := Lib.hid hm2; have hb2 := hb1.trans (ho2.below.mono hH)))
    | (go_at_call 17; ((with_reducible refine (V1.out _ _ hm2.out).mono ?_); rintro e w3 ⟨rfl, rfl⟩))
    | (go_at_call 13; ((with_reducible refine (P1.out _ _ hm2.out).mono ?_); rintro e w3 ⟨rfl, rfl⟩))
    | (go_at_call 12; ((with_reducible refine (S2.out _ _ hm2.out).mono ?_); rintro e w4 ⟨rfl, hm4, ho4⟩; have hm4 := Lib.hid hm4; have hb4 := hb2.trans (ho4.below.mono hH)))
    | (go_at_call 17; ((with_reducible refine (V2.out _ _ hm4.out).mono ?_); rintro e w5 ⟨rfl, rfl⟩))
    | (go_at_call 13; ((with_reducible refine (P2.out _ _ hm4.out).mono ?_); rintro e w5 ⟨rfl, rfl⟩))
    | (go_at_call 23; ((with_reducible refine (N2.out _ _ hm4.out).mono ?_); rintro e w5 ⟨rfl, rfl⟩))
    | (go_at_call 12; ((with_reducible refine (S3.out _ _ hm4.out).mono ?_); rintro e w6 ⟨rfl, hb6⟩; have hm6 := Lib.hid (hm4.out.keep hb6); have hB6 := bel2' hb4 hb6))
    | (go_at_call 20; ((with_reducible refine (FR.out _).mono ?_); rintro e w7 ⟨p7, l7, k7, p8, l8, k8, rfl, hq7, hb7⟩; have hm7 := Lib.hid (hm6.out.keep hb7); have hB7 := bel2' hB6 hb7))
    | (go_at_call 14; ((with_reducible refine (CF.out _ _ _ hm7.out hq7).mono ?_); rintro e w8 ⟨rfl, hb8⟩; have hB8 := bel2' hB7 hb8)))
  go_ret
  exact ⟨rfl, hB8⟩

end Go.Proofs.Ytlhkjkhbgebgiaa
