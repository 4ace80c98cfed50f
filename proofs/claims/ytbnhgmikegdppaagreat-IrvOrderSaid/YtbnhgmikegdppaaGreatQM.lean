/- Contracts and plain facts, part 13: Is, It, Iu, Ha, Iy, Iz, Im, J0. No condition beyond those that each theorem states. -/
import Derived.Test.YtbnhgmikegdppaaGreatQL
import Derived.BigQuiet
/- Plain facts for the reference's count: sorted lists, kept candidates, sizes, the lowest. -/
namespace Go.Proofs.Nums

theorem sorted_ext : ∀ {a b : List Int}, a.Pairwise (· < ·) → b.Pairwise (· < ·) → (∀ x, x ∈ a ↔ x ∈ b) → a = b
  | [], [], _, _, _ => rfl
  | [], y :: b, _, _, h => absurd ((h y).2 (List.mem_cons_self ..)) (List.not_mem_nil)
  | x :: a, [], _, _, h => absurd ((h x).1 (List.mem_cons_self ..)) (List.not_mem_nil)
  | x :: a, y :: b, ha, hb, h => by
    obtain ⟨ha1, ha2⟩ := List.pairwise_cons.1 ha
    obtain ⟨hb1, hb2⟩ := List.pairwise_cons.1 hb
    have e : x = y := by
      have h1 := (h x).1 (List.mem_cons_self ..)
      have h2 := (h y).2 (List.mem_cons_self ..)
      rw [List.mem_cons] at h1 h2
      rcases h1 with h1 | h1
      · exact h1
      · rcases h2 with h2 | h2
        · exact h2.symm
        · have := hb1 x h1; have := ha1 y h2; omega
    subst e
    rw [sorted_ext ha2 hb2 fun z => ?_]
    have hz := h z
    rw [List.mem_cons, List.mem_cons] at hz
    constructor
    · intro hm
      rcases hz.1 (.inr hm) with e | e
      · have := ha1 z hm; omega
      · exact e
    · intro hm
      rcases hz.2 (.inr hm) with e | e
      · have := hb1 z hm; omega
      · exact e
theorem riseTo_all {l : List Int} {n : Nat} (hs : l.Pairwise (· < ·)) (hr : ∀ x ∈ l, 0 ≤ x ∧ x < (n : Int)) : riseTo l n = l := by
  refine sorted_ext ((range_sorted n).filter _) hs fun x => ?_
  unfold riseTo
  rw [List.mem_filter, List.mem_map]
  constructor
  · rintro ⟨_, h⟩
    exact hasB_true.1 h
  · intro h
    have := hr x h
    exact ⟨⟨x.toNat, List.mem_range.2 (by omega), by omega⟩, hasB_true.2 h⟩
def keptS (rem : List Bool) (p : List Int) : List Int := p.filter (remB rem)
theorem kept_none {rem : List Bool} {p : List Int} (h : (keptS rem p).length = 0) : p.find? (remB rem) = none := by
  have e : keptS rem p = [] := List.eq_nil_of_length_eq_zero h
  rw [← List.head?_filter]
  unfold keptS at e
  rw [e]; rfl
theorem kept_some {rem : List Bool} {p : List Int} (h : 0 < (keptS rem p).length) : p.find? (remB rem) = some ((keptS rem p).getD 0 0) := by
  rw [← List.head?_filter]
  show (keptS rem p).head? = _
  cases e : keptS rem p with
  | nil => rw [e] at h; simp at h
  | cons a t => rfl
theorem kept_step {rem : List Bool} {p : List Int} {k : Nat} {y : Int} (h : k < p.length) (hy : p.getD k 0 = y) : keptS rem (p.take (k + 1)) = keptS rem (p.take k) ++ (if remB rem y = true then [y] else []) := by
  unfold keptS
  rw [take_snoc_i h, hy, List.filter_append]
  cases e : remB rem y <;> simp [e]
theorem kept_len (rem : List Bool) (p : List Int) : (keptS rem p).length ≤ p.length := List.length_filter_le _ _
theorem remB_nat {l : List Bool} {k : Nat} : remB l k = l.getD k false := by simp [remB]
theorem low_at {gs : List Grp} {rem : List Bool} {i : Nat} (hi : i < rem.length) : hasB (lowS gs rem) i = true ↔ rem.getD i false = true ∧ ∀ j, j < rem.length → rem.getD j false = true → ¬ (votesS gs rem).getD j 0 < (votesS gs rem).getD i 0 := by
  have hv : ∀ j, j < rem.length → (votesS gs rem).getD j 0 = wt (remB rem) gs j := fun j hj => by
    have := votes_get (gs := gs) (rem := rem) (c := (j : Int)) (by omega) (by omega)
    rwa [Int.toNat_natCast] at this
  rw [hasB_true, mem_low]
  unfold Low
  rw [remB_nat]
  constructor
  · rintro ⟨h1, h2⟩
    refine ⟨h1, fun j hj hr => ?_⟩
    have := h2 j (by rw [remB_nat]; exact hr)
    rw [hv j hj, hv i hi]
    omega
  · rintro ⟨h1, h2⟩
    refine ⟨h1, fun d hd => ?_⟩
    have hl := remB_lt hd
    obtain ⟨j, rfl⟩ : ∃ j : Nat, d = j := ⟨d.toNat, by omega⟩
    rw [remB_nat] at hd
    have := h2 j (by omega) hd
    rw [hv j (by omega), hv i hi] at this
    omega
theorem low_all (gs : List Grp) (rem : List Bool) : riseTo (lowS gs rem) rem.length = lowS gs rem :=
  riseTo_all (low_sorted gs rem) fun _ hx => remB_lt (mem_low.1 hx).1
theorem low_len (gs : List Grp) (rem : List Bool) : (lowS gs rem).length ≤ rem.length := by
  rw [← low_all]
  exact riseTo_len _ _
theorem alive_rise (rem : List Bool) : riseTo (aliveS rem) rem.length = aliveS rem :=
  riseTo_all (alive_sorted rem) fun _ hx => remB_lt (mem_alive.1 hx)
/-- Whether c is among the lowest, as far as the first j are looked at. -/
def leastB (V : List Int) (rem : List Bool) (c : Nat) : Nat → Bool
  | 0 => rem.getD c false
  | j + 1 => leastB V rem c j && (!(rem.getD j false) || decide (V.getD c 0 ≤ V.getD j 0))
theorem leastB_iff {V : List Int} {rem : List Bool} {c : Nat} : ∀ {j : Nat}, leastB V rem c j = true ↔ rem.getD c false = true ∧ ∀ d, d < j → rem.getD d false = true → ¬ V.getD d 0 < V.getD c 0
  | 0 => by
    unfold leastB
    exact ⟨fun h => ⟨h, fun d hd => absurd hd (Nat.not_lt_zero d)⟩, fun h => h.1⟩
  | j + 1 => by
    unfold leastB
    rw [Bool.and_eq_true, leastB_iff (j := j), Bool.or_eq_true, Bool.not_eq_true', decide_eq_true_iff]
    constructor
    · rintro ⟨⟨h1, h2⟩, h3⟩
      refine ⟨h1, fun d hd hr => ?_⟩
      by_cases e : d = j
      · subst e
        rcases h3 with h3 | h3
        · rw [hr] at h3; simp at h3
        · omega
      · exact h2 d (by omega) hr
    · rintro ⟨h1, h2⟩
      refine ⟨⟨h1, fun d hd => h2 d (by omega)⟩, ?_⟩
      cases hr : rem.getD j false with
      | false => exact .inl rfl
      | true => exact .inr (by have := h2 j (by omega) hr; omega)
theorem least_low {gs : List Grp} {rem : List Bool} {c : Nat} (hc : c < rem.length) : leastB (votesS gs rem) rem c rem.length = true ↔ Low gs (remB rem) c := by
  rw [leastB_iff, ← low_at hc, hasB_true, mem_low]
theorem and_bit : ∀ s < 128, ∀ k < 7, (bits BinOp.and IntKind.i64 (((s : Nat) : Int) / 2 ^ k) 1 == 1) = s.testBit k := by decide +kernel
theorem andnot_bit : ∀ s < 128, ∀ k < 7, s.testBit k = true → bits BinOp.andNot IntKind.i64 ((s : Nat) : Int) (2 ^ k) = ((s - 2 ^ k : Nat) : Int) := by decide +kernel
def allS (n : Nat) : List Bool := List.replicate n true

end Go.Proofs.Nums

/- The reference: in, Kept, Size, Members. -/
namespace Go.Proofs.YtbnhgmikegdppaaGreat
open Go.RowKit Go.Proofs.Kit Go.Proofs.Nums

set_option maxHeartbeats 1000000 in
theorem in_c {v : Value} {l : List Bool} {w : World} (hv : BoolsAt w v l) (x : Int) :
    Calls Tryz.prog 59 #[v, .int .i64 x] w fun e w' => e = .returned (.bool (remB l x)) ∧ w = w' := by
  have H := Lib.hid hv
  have hlm := hv.len
  obtain ⟨p, c, rfl⟩ := hv.shape
  clear hv
  by_cases h0 : x < 0
  · rw [show remB l x = false by unfold remB; rw [decide_eq_false (by omega)]; rfl]
    have hz : decide ((0 : Int) ≤ x) = false := decide_eq_false (by omega)
    obtain ⟨len, hlen⟩ : ∃ n, l.length = n := ⟨_, rfl⟩
    rw [hlen] at hlm ⊢
    clear hlen H
    go_enter Tryz.func59, Tryz.ntmps59
    go_wp2_with fail
    go_ret
    exact ⟨rfl, rfl⟩
  have hz0 : decide ((0 : Int) ≤ x) = true := decide_eq_true (by omega)
  have hz1 : (0 : Int) ≤ x := by omega
  by_cases h : x < l.length
  · obtain ⟨k, rfl⟩ : ∃ k : Nat, x = k := ⟨x.toNat, by omega⟩
    obtain ⟨b, off, e, i1, i2, hc⟩ := H.out.cellAt k (by omega)
    subst e
    rw [← remB_at] at hc
    obtain ⟨r, hr⟩ : ∃ r, remB l k = r := ⟨_, rfl⟩
    rw [hr] at hc ⊢
    obtain ⟨len, hlen⟩ : ∃ n, l.length = n := ⟨_, rfl⟩
    rw [hlen] at hlm h i1 ⊢
    clear hr hlen H h0
    go_enter Tryz.func59, Tryz.ntmps59
    go_wp2_with fail
    go_ret
    exact ⟨rfl, rfl⟩
  · rw [remB_ge (by omega)]
    obtain ⟨len, hlen⟩ : ∃ n, l.length = n := ⟨_, rfl⟩
    rw [hlen] at hlm h ⊢
    clear hlen H h0
    have hz : ¬ x < (len : Int) := h
    go_enter Tryz.func59, Tryz.ntmps59
    go_wp2_with fail
    go_ret
    exact ⟨rfl, rfl⟩

set_option maxHeartbeats 2000000 in
theorem kept_c {vp vr : Value} {p : List Int} {rem : List Bool} {w : World} (hp : IntsAt w vp p) (hr : BoolsAt w vr rem) (hl : p.length ≤ 1000) :
    Calls Tryz.prog 57 #[vp, vr] w fun e w' => ∃ v', e = .returned v' ∧ IntsAt w' v' (keptS rem p) ∧ Fresh w.heap.size v' ∧ Below w.heap.size w w' := by
  have H := Lib.hid hp
  have IN := Lib.hid (fun wq (h : Below w.heap.size w wq) x => in_c (hr.keep h) x)
  obtain ⟨b, c, rfl⟩ := hp.shape
  obtain ⟨pr, cr, rfl⟩ := hr.shape
  obtain ⟨len, hlen⟩ : ∃ n, p.length = n := ⟨_, rfl⟩
  obtain ⟨rl, hrl⟩ : ∃ n, rem.length = n := ⟨_, rfl⟩
  have HN := Lib.hid hlen
  rw [hlen] at H hl ⊢
  rw [hrl] at IN ⊢
  clear hp hr hlen hrl
  go_enter Tryz.func57, Tryz.ntmps57
  go_wp2_with fail
  go_loopw [5, 6] (fun ov iv wr => ∃ k m : Nat, k ≤ len ∧ iv = .int .i64 k ∧ wr.ownsRow w.heap.size 3 1 ov m ((keptS rem (p.take k)).map (Value.int .i64)) ∧ Below w.heap.size w wr) (fun _ iv _ => len - (intOf iv).toNat)
  case atStart => exact ⟨0, 0, by omega, rfl, (World.ownsRow_nil _ _ _ _ : w.ownsRow w.heap.size 3 1 (.slice none 0 0) 0 []), Below.refl _ _⟩
  case round =>
    obtain ⟨k, m, hk, rfl, hown, hbel⟩ := hrel
    by_cases hlt : k < len
    · have hltz : (k : Int) < (len : Int) := by omega
      have hm2 : m ≤ k := by
        have h1 := hown.1
        have h2 := kept_len rem (p.take k)
        rw [List.length_map] at h1
        rw [List.length_take] at h2
        omega
      obtain ⟨bb, off, hp0, hc1, hc2, hcell⟩ := (H.out.keep hbel).cellAt k (by rw [HN.out]; exact hlt)
      subst hp0
      obtain ⟨y, hy⟩ : ∃ y, p.getD k 0 = y := ⟨_, rfl⟩
      rw [hy] at hcell
      have hst := kept_step (rem := rem) (by rw [HN.out]; exact hlt) hy
      have HA := Lib.hid (IN.out wr hbel y)
      cases hb : remB rem y
      · rw [hb] at HA hst
        have HR : Hid (keptS rem (p.take (k + 1)) = keptS rem (p.take k)) := Lib.hid (by rw [hst]; simp)
        clear hb hst hy
        go_wp2_with (go_at_call 59; ((with_reducible refine (HA.out).mono ?_); rintro e w1 ⟨rfl, rfl⟩))
        go_roundw
        case rel => exact ⟨k + 1, m, by omega, by go_num, by rw [HR.out]; exact hown, hbel⟩
        case measure => simp [intOf] <;> omega
      · rw [hb] at HA hst
        have HR : Hid (keptS rem (p.take (k + 1)) = keptS rem (p.take k) ++ [y]) := Lib.hid (by rw [hst]; simp)
        clear hb hst hy
        go_wp2_with (first
          | (go_at_call 59; ((with_reducible refine (HA.out).mono ?_); rintro e w1 ⟨rfl, rfl⟩))
          | (at_builtin; go_must (refine append_one erI rfl rfl hown rfl rfl rfl (by simp [Value.oneCell']) (by omega) (by omega) hbel.size ?_); intro v' w1 hown1 _ hb1 hne1))
        go_roundw
        case rel =>
          refine ⟨k + 1, m + 1, by omega, by go_num, ?_, hbel.trans hb1⟩
          rw [HR.out, List.map_append]
          exact hown1
        case measure => simp [intOf] <;> omega
    · obtain rfl : len = k := by omega
      have HI : Hid (IntsAt wr u5 (keptS rem p)) := Lib.hid (by have := ints_owned hown; rwa [List.take_of_length_le (by rw [HN.out]; exact Nat.le_refl _)] at this)
      have HF := Lib.hid (Fresh.owned hown)
      clear hown
      go_wp2_with fail
      go_ret
      exact ⟨_, rfl, HI.out, HF.out, hbel⟩

set_option maxHeartbeats 1000000 in
theorem size_c {v : Value} {rem : List Bool} {w : World} (hv : BoolsAt w v rem) (h7 : rem.length ≤ 7) :
    Calls Tryz.prog 34 #[v] w fun e w' => e = .returned (.int .i64 ((aliveS rem).length : Nat)) ∧ w = w' := by
  have H := Lib.hid hv
  obtain ⟨p, c, rfl⟩ := hv.shape
  obtain ⟨len, hlen⟩ : ∃ n, rem.length = n := ⟨_, rfl⟩
  have HN := Lib.hid hlen
  rw [hlen] at H h7 ⊢
  clear hv hlen
  go_enter Tryz.func34, Tryz.ntmps34
  go_wp2_with fail
  go_loop [3, 4] (fun sv iv => ∃ k m : Nat, k ≤ len ∧ m ≤ k ∧ iv = .int .i64 k ∧ sv = .int .i64 m ∧ Hid ((aliveTo rem k).length = m)) (fun _ iv => len - (intOf iv).toNat)
  case atStart => exact ⟨0, 0, by omega, by omega, rfl, rfl, Lib.hid rfl⟩
  case round =>
    obtain ⟨k, m, hk, hm, rfl, rfl, hI⟩ := hrel
    by_cases hlt : k < len
    · have hltz : (k : Int) < (len : Int) := by omega
      obtain ⟨bb, off, hp0, hc1, hc2, hcell⟩ := H.out.cellAt k (by rw [HN.out]; exact hlt)
      subst hp0
      rw [← remB_at] at hcell
      cases hb : remB rem k
      · rw [hb] at hcell
        have HR : Hid ((aliveTo rem (k + 1)).length = m) := Lib.hid (by rw [aliveTo_no hb]; exact hI.out)
        clear hb
        go_wp2_with fail
        go_round
        case rel => exact ⟨k + 1, m, by omega, by omega, by go_num, rfl, HR⟩
        case measure => simp [intOf] <;> omega
      · rw [hb] at hcell
        have HR : Hid ((aliveTo rem (k + 1)).length = m + 1) := Lib.hid (by rw [aliveTo_yes hb, List.length_append, hI.out]; rfl)
        clear hb
        go_wp2_with fail
        go_round
        case rel => exact ⟨k + 1, m + 1, by omega, by omega, by go_num, by go_num, HR⟩
        case measure => simp [intOf] <;> omega
    · obtain rfl : len = k := by omega
      have HX : Hid (m = (aliveS rem).length) := Lib.hid (by have := hI.out; rw [← HN.out, aliveTo_all] at this; exact this.symm)
      go_wp2_with fail
      go_ret
      exact ⟨by rw [HX.out]; rfl, rfl⟩

end Go.Proofs.YtbnhgmikegdppaaGreat

/- The reference: Valid, Pile, First, Lowest. -/
namespace Go.Proofs.YtbnhgmikegdppaaGreat
open Go.RowKit Go.Proofs.Kit Go.Proofs.Nums

set_option maxRecDepth 100000 in
set_option maxHeartbeats 4000000 in
theorem ballot_q {v : Value} {l : List Int} {w : World} (hv : IntsAt w v l) (n : Int) :
    Calls Tryz.prog 42 #[.int .i64 n, v] w fun e w' => e = .returned (.bool (balS n l)) ∧ ∃ m, w' = w.drewN m := by
  have H := Lib.hid hv
  have hlm := hv.len
  obtain ⟨p, c, rfl⟩ := hv.shape
  have hcap : l.length ≤ c := by
    obtain ⟨p', cap, e, h1, _⟩ := hv
    simp only [Value.slice.injEq] at e
    obtain ⟨_, _, rfl⟩ := e
    rw [List.length_map] at h1; exact h1
  obtain ⟨len, hlen⟩ : ∃ n, l.length = n := ⟨_, rfl⟩
  have HN := Lib.hid hlen
  rw [hlen] at hlm H hcap ⊢
  clear hv hlen
  obtain ⟨r, hr⟩ : ∃ r, balS n l = r := ⟨_, rfl⟩
  rw [hr]
  have HRT : Hid (BalP n l → r = true) := Lib.hid (fun h => by rw [← hr]; unfold balS; exact decide_eq_true h)
  have HRF : Hid (¬ BalP n l → r = false) := Lib.hid (fun h => by rw [← hr]; unfold balS; exact decide_eq_false h)
  clear hr
  go_enter Tryz.func42, Tryz.ntmps42
  go_wp2_with fail
  go_loopw [5] (fun iv wr => ∃ k : Nat, k ≤ len ∧ iv = .int .i64 k ∧ (∃ m, wr = w.drewN m) ∧ Hid (BalP n (l.take k))) (fun iv _ => len - (intOf iv).toNat)
  case atStart => exact ⟨0, by omega, rfl, ⟨0, rfl⟩, Lib.hid ⟨fun c hc => by simp at hc, by simp⟩⟩
  case round =>
    obtain ⟨k, hk, rfl, ⟨mq, hmq⟩, hP⟩ := hrel
    have HMQ := Lib.hid hmq
    have hbel : Below w.heap.size w wr := by rw [hmq]; exact below_drewN (Below.refl _ _) mq
    clear hmq
    by_cases hlt : k < len
    · have hltz : (k : Int) < (len : Int) := by omega
      obtain ⟨bb, off, hp0, hc1, hc2, hcell⟩ := (H.out.keep hbel).cellAt k (by rw [HN.out]; exact hlt)
      subst hp0
      obtain ⟨y, hy⟩ : ∃ y, l.getD k 0 = y := ⟨_, rfl⟩
      rw [hy] at hcell
      have HY := Lib.hid hy
      clear hy
      by_cases y0 : y < 0
      · have HX : Hid (r = false) := Lib.hid (HRF.out (bal_no_range (by rw [HN.out]; exact hlt) HY.out (by omega)))
        have d0 : decide (y < 0) = true := by rw [decide_eq_true_iff]; exact y0
        go_wp2_with fail
        go_quiet (fail)
        all_goals
          go_wp2_with fail
          go_ret
          exact ⟨ret_bb HX.out.symm, _, by rw [HMQ.out, World.drewN_drewN]⟩
      · by_cases y1 : n ≤ y
        · have HX : Hid (r = false) := Lib.hid (HRF.out (bal_no_range (by rw [HN.out]; exact hlt) HY.out (by omega)))
          have d0 : decide (y < 0) = false := by rw [decide_eq_false_iff_not]; exact y0
          have d1 : decide (n ≤ y) = true := by rw [decide_eq_true_iff]; exact y1
          go_wp2_with fail
          go_quiet (fail)
          all_goals
            go_wp2_with fail
            go_ret
            exact ⟨ret_bb HX.out.symm, _, by rw [HMQ.out, World.drewN_drewN]⟩
        · have d0 : decide (y < 0) = false := by rw [decide_eq_false_iff_not]; exact y0
          have d1 : decide (n ≤ y) = false := by rw [decide_eq_false_iff_not]; exact y1
          have HA : Hid (∀ q, Calls Tryz.prog 65 #[.slice (some ⟨bb, off, none⟩) k c, .int .i64 y] (wr.drewN q) fun e w'' => e = .returned (.bool (hasB (l.take k) y)) ∧ w'' = wr.drewN q) := Lib.hid (fun q => (has_c ((H.out.keep (below_drewN hbel q)).cutTo (by rw [HN.out]; omega)) y).mono fun _ _ ⟨h1, h2⟩ => ⟨h1, h2.symm⟩)
          have S0 : Hid (wr.drew.cell? ⟨bb, off + k, none⟩ = some (.int .i64 y)) := Lib.hid hcell
          have hbD := hbel.drew
          have kc : (k : Int) ≤ (c : Int) := by omega
          have kc0 : (0 : Int) ≤ (k : Int) := by omega
          cases hb : hasB (l.take k) y
          · rw [hb] at HA
            have HX : Hid (BalP n (l.take (k + 1))) := Lib.hid (BalP.snoc (by rw [HN.out]; exact hlt) HY.out hP.out (by omega) (by omega) hb)
            clear hb
            go_wp2_with fail
            go_quiet ((go_at_call 65; exact Calls.quiet_of_same (HA.out _)))
            all_goals
              go_wp2_with fail
              go_roundw
              case rel => exact ⟨k + 1, by omega, by go_num, ⟨_, by rw [HMQ.out, World.drewN_drewN]⟩, HX⟩
              case measure => simp [intOf] <;> omega
          · rw [hb] at HA
            have HX : Hid (r = false) := Lib.hid (HRF.out (bal_no_dup (by rw [HN.out]; exact hlt) HY.out hb))
            clear hb
            go_wp2_with fail
            go_quiet ((go_at_call 65; exact Calls.quiet_of_same (HA.out _)))
            all_goals
              go_wp2_with fail
              go_ret
              exact ⟨ret_bb HX.out.symm, _, by rw [HMQ.out, World.drewN_drewN]⟩
    · have hltz : ¬ (k : Int) < (len : Int) := by omega
      have HX : Hid (r = true) := Lib.hid (HRT.out (by have := hP.out; rwa [List.take_of_length_le (by rw [HN.out]; omega)] at this))
      go_wp2_with fail
      go_ret
      exact ⟨ret_bb HX.out.symm, mq, HMQ.out⟩

set_option maxRecDepth 100000 in
set_option maxHeartbeats 4000000 in
theorem less_q {va vb : Value} {a b : List Int} {w : World} (ha : IntsAt w va a) (hb : IntsAt w vb b) :
    Calls Tryz.prog 41 #[va, vb] w fun e w' => e = .returned (.bool (ltL a b)) ∧ ∃ m, w' = w.drewN m := by
  have HA := Lib.hid ha
  have HB := Lib.hid hb
  have ham := ha.len
  have hbm := hb.len
  obtain ⟨p, c, rfl⟩ := ha.shape
  obtain ⟨p', c', rfl⟩ := hb.shape
  obtain ⟨na, hna⟩ : ∃ n, a.length = n := ⟨_, rfl⟩
  obtain ⟨nb, hnb⟩ : ∃ n, b.length = n := ⟨_, rfl⟩
  have LA := Lib.hid hna
  have LB := Lib.hid hnb
  obtain ⟨r, hr⟩ : ∃ r, ltL a b = r := ⟨_, rfl⟩
  have HR := Lib.hid hr
  rw [hr]
  rw [hna] at ham HA ⊢
  rw [hnb] at hbm HB ⊢
  clear ha hb hna hnb hr
  go_enter Tryz.func41, Tryz.ntmps41
  go_wp2_with fail
  go_loopw [5] (fun iv wr => ∃ k : Nat, k ≤ na ∧ k ≤ nb ∧ iv = .int .i64 k ∧ (∃ m, wr = w.drewN m) ∧ Hid (a.take k = b.take k)) (fun iv _ => na - (intOf iv).toNat)
  case atStart => exact ⟨0, by omega, by omega, rfl, ⟨0, rfl⟩, Lib.hid rfl⟩
  case round =>
    obtain ⟨k, hka, hkb, rfl, ⟨mq, hmq⟩, hP⟩ := hrel
    have HMQ := Lib.hid hmq
    have hbel : Below w.heap.size w wr := by rw [hmq]; exact below_drewN (Below.refl _ _) mq
    clear hmq
    by_cases h1 : k < na
    · have z1 : (k : Int) < (na : Int) := by omega
      by_cases h2 : k < nb
      · have z2 : (k : Int) < (nb : Int) := by omega
        obtain ⟨b1, o1, e1, i1, i2, hc1⟩ := (HA.out.keep hbel).cellAt k (by rw [LA.out]; exact h1)
        obtain ⟨b2, o2, e2, j1, j2, hc2⟩ := (HB.out.keep hbel).cellAt k (by rw [LB.out]; exact h2)
        subst e1; subst e2
        obtain ⟨x, hx⟩ : ∃ x, a.getD k 0 = x := ⟨_, rfl⟩
        obtain ⟨y, hy⟩ : ∃ y, b.getD k 0 = y := ⟨_, rfl⟩
        rw [hx] at hc1
        rw [hy] at hc2
        have hd1 : wr.drew.cell? ⟨b1, o1 + k, none⟩ = some (.int .i64 x) := hc1
        have hd2 : wr.drew.cell? ⟨b2, o2 + k, none⟩ = some (.int .i64 y) := hc2
        by_cases hxy : x = y
        · have HX : Hid (a.take (k + 1) = b.take (k + 1)) := Lib.hid (take_same (by rw [LA.out]; exact h1) (by rw [LB.out]; exact h2) hP.out (by rw [hx, hy, hxy]))
          have q1 : (x == y) = true := by rw [hxy]; simp
          have q2 : (x != y) = false := by rw [hxy]; simp
          clear hx hy hxy
          go_wp2_with fail
          go_quiet (fail)
          all_goals
            go_wp2_with fail
            go_roundw
            case rel => exact ⟨k + 1, by omega, by omega, by go_num, ⟨_, by rw [HMQ.out, World.drewN_drewN]⟩, HX⟩
            case measure => simp [intOf] <;> omega
        · have HX : Hid (decide (x < y) = r) := Lib.hid (by rw [← HR.out, lt_at (by rw [LA.out]; exact h1) (by rw [LB.out]; exact h2) hP.out (by rw [hx, hy]; exact hxy), hx, hy])
          have q1 : (x == y) = false := by rw [beq_eq_false_iff_ne]; exact hxy
          have q2 : (x != y) = true := by simpa using hxy
          clear hx hy hxy
          obtain ⟨dd, hdd⟩ : ∃ dd, decide (x < y) = dd := ⟨_, rfl⟩
          rw [hdd] at HX
          go_wp2_with fail
          go_quiet (fail)
          all_goals
            go_wp2_with fail
            go_quiet (fail)
            all_goals
              go_wp2_with fail
              go_ret
              exact ⟨ret_bb (by first | exact HX.out | (rw [hdd]; exact HX.out)), ⟨_, by rw [HMQ.out, World.drewN_drewN, World.drewN_drewN]⟩⟩
      · have z2 : ¬ (k : Int) < (nb : Int) := by omega
        have HX : Hid (decide (na < nb) = r) := Lib.hid (by
          rw [← HR.out, lt_end (by rw [LA.out]; omega) (by rw [LB.out]; omega) hP.out (.inr (by rw [LB.out]; omega)), LA.out, LB.out])
        go_wp2_with fail
        go_ret
        exact ⟨ret_bb HX.out, mq, HMQ.out⟩
    · have z1 : ¬ (k : Int) < (na : Int) := by omega
      have HX : Hid (decide (na < nb) = r) := Lib.hid (by
        rw [← HR.out, lt_end (by rw [LA.out]; omega) (by rw [LB.out]; omega) hP.out (.inl (by rw [LA.out]; omega)), LA.out, LB.out])
      go_wp2_with fail
      go_ret
      exact ⟨ret_bb HX.out, mq, HMQ.out⟩

theorem valid_range {n : Int} {gs : List Grp} (h : ¬ (1 ≤ n ∧ n ≤ 7)) : okS n gs = false := by
  unfold okS
  by_cases h1 : 1 ≤ n
  · rw [decide_eq_false (show ¬ n ≤ 7 by omega), Bool.and_false, Bool.false_and]
  · rw [decide_eq_false h1, Bool.false_and, Bool.false_and]
theorem valid_in {n : Int} {gs : List Grp} (h1 : 1 ≤ n) (h7 : n ≤ 7) : okS n gs = pileS n gs := by
  unfold okS
  rw [decide_eq_true h1, decide_eq_true h7, Bool.true_and, Bool.true_and]

set_option maxRecDepth 100000 in
set_option maxHeartbeats 4000000 in
theorem rvalid_c {v : Value} {gs : List Grp} {w : World} (hv : PileAt w v gs) (n : Int) :
    Calls Tryz.prog 54 #[.int .i64 n, v] w fun e w' => e = .returned (.bool (okS n gs)) ∧ Below w.heap.size w w' := by
  have H := Lib.hid hv
  have hlm := SliceOf.len hv
  obtain ⟨p, c, rfl⟩ := hv.shp
  obtain ⟨len, hlen⟩ : ∃ n, gs.length = n := ⟨_, rfl⟩
  have HN := Lib.hid hlen
  rw [hlen] at hlm H ⊢
  clear hv hlen
  by_cases n1 : n < 1
  · rw [valid_range (by omega)]
    have d1 : decide (n < 1) = true := decide_eq_true n1
    go_enter Tryz.func54, Tryz.ntmps54
    go_wp2_with fail
    go_ret
    exact ⟨rfl, Below.refl _ _⟩
  have d1 : decide (n < 1) = false := decide_eq_false n1
  by_cases n7 : 7 < n
  · rw [valid_range (by omega)]
    have d2 : decide (7 < n) = true := decide_eq_true n7
    go_enter Tryz.func54, Tryz.ntmps54
    go_wp2_with fail
    go_ret
    exact ⟨rfl, Below.refl _ _⟩
  have d2 : decide (7 < n) = false := decide_eq_false n7
  rw [valid_in (by omega) (by omega)]
  obtain ⟨r, hr⟩ : ∃ r, pileS n gs = r := ⟨_, rfl⟩
  rw [hr]
  have HRT : Hid (PileP n gs → r = true) := Lib.hid (fun h => by rw [← hr]; exact pile_true.2 h)
  have HRF : Hid (¬ PileP n gs → r = false) := Lib.hid (fun h => by rw [← hr]; exact pile_false h)
  clear hr
  go_enter Tryz.func54, Tryz.ntmps54
  go_wp2_with fail
  go_loopw [5, 6] (fun rv iv wr => ∃ k : Nat, ∃ s : Int, k ≤ len ∧ iv = .int .i64 k ∧ rv = .int .i64 s ∧ Below w.heap.size w wr ∧ Hid (s = 100000 - totS (gs.take k)) ∧ Hid (PileP n (gs.take k)) ∧ 0 ≤ s ∧ s ≤ 100000) (fun _ iv _ => len - (intOf iv).toNat)
  case atStart => exact ⟨0, 100000, by omega, rfl, rfl, Below.refl _ _, Lib.hid rfl, Lib.hid (PileP.nil _), by omega, by omega⟩
  case round =>
    obtain ⟨k, s, hk, rfl, rfl, hbel, hS, hP, s0, s1⟩ := hrel
    by_cases hlt : k < len
    · have hltz : (k : Int) < (len : Int) := by omega
      obtain ⟨g, hg⟩ : ∃ g, gs.getD k g0 = g := ⟨_, rfl⟩
      obtain ⟨bb, off, q, m, d, hp0, hc1, hc2, cl0, cl1, HI, hm⟩ := (H.out.keep hbel).cellAt (by rw [HN.out]; exact hlt) hg
      subst hp0
      obtain ⟨y, hy⟩ : ∃ y, g.n = y := ⟨_, rfl⟩
      rw [hy] at cl1
      have HI := Lib.hid HI
      have HG := Lib.hid hg
      have HY := Lib.hid hy
      obtain ⟨b, hb⟩ : ∃ b, balS n g.p = b := ⟨_, rfl⟩
      have BC : Hid (∀ q', Calls Tryz.prog 42 #[.int .i64 n, .slice q m d] (wr.drewN q') fun e w' => e = .returned (.bool b) ∧ ∃ mm, w' = (wr.drewN q').drewN mm) := Lib.hid (fun q' => by
        have := ballot_q (HI.out.keep (below_drewN (Below.refl _ _) q')) n
        rwa [hb] at this)
      clear hm hg hy
      cases b
      · have HX : Hid (r = false) := Lib.hid (HRF.out (pile_no_bal (by rw [HN.out]; exact hlt) HG.out (of_decide_eq_false hb)))
        clear hb
        go_wp2_with fail
        go_quiet ((go_at_call 42; exact Calls.quiet_of (BC.out _)))
        all_goals
          go_wp2_with fail
          go_ret
          exact ⟨ret_bb HX.out.symm, below_drewN hbel _⟩
      have hbal : BalP n g.p := of_decide_eq_true hb
      clear hb
      by_cases y0 : y < 1
      · have HX : Hid (r = false) := Lib.hid (HRF.out (pile_no_pos (by rw [HN.out]; exact hlt) HG.out (by rw [HY.out]; exact y0)))
        have e0 : decide (y < 1) = true := decide_eq_true y0
        clear hbal
        go_wp2_with fail
        go_quiet ((go_at_call 42; exact Calls.quiet_of (BC.out _)))
        all_goals
          go_wp2_with fail
          go_ret
          exact ⟨ret_bb HX.out.symm, below_drewN hbel _⟩
      have e0 : decide (y < 1) = false := decide_eq_false y0
      by_cases y1 : s < y
      · have HX : Hid (r = false) := Lib.hid (HRF.out (pile_no_tot (by rw [HN.out]; exact hlt) HG.out (by rw [HY.out, ← hS.out]; exact y1)))
        have e1 : decide (s < y) = true := decide_eq_true y1
        clear hbal
        go_wp2_with fail
        go_quiet ((go_at_call 42; exact Calls.quiet_of (BC.out _)))
        all_goals
          go_wp2_with fail
          go_ret
          exact ⟨ret_bb HX.out.symm, below_drewN hbel _⟩
      have e1 : decide (s < y) = false := decide_eq_false y1
      have hws : IntKind.i64.wrap (s - y) = s - y := w64 (by omega) (by omega)
      cases k with
      | zero =>
        have HX : Hid (PileP n (gs.take (0 + 1))) := Lib.hid (hP.out.snoc (by rw [HN.out]; exact hlt) HG.out hbal (by rw [HY.out]; omega) (by have := hS.out; rw [HY.out]; omega) (fun h => by omega))
        have HS : Hid (s - y = 100000 - totS (gs.take (0 + 1))) := Lib.hid (by rw [take_snoc_g (by rw [HN.out]; exact hlt), HG.out, tot_snoc, HY.out, hS.out]; omega)
        simp only [Nat.zero_mul, Nat.add_zero] at cl0 cl1
        clear hbal
        go_wp2_with fail
        go_quiet ((go_at_call 42; exact Calls.quiet_of (BC.out _)))
        all_goals
          go_wp2_with fail
          go_roundw
          case rel => exact ⟨0 + 1, s - y, by omega, by go_num, rfl, below_drewN hbel _, HS, HX, by omega, by omega⟩
          case measure => simp [intOf] <;> omega
      | succ k =>
        obtain ⟨a, ha⟩ : ∃ g, gs.getD k g0 = g := ⟨_, rfl⟩
        obtain ⟨bb2, off2, q2, m2, d2, hp2, _, _, cm0, _, HI2, hm2⟩ := (H.out.keep hbel).cellAt (by rw [HN.out]; omega) ha
        simp only [Option.some.injEq, Addr.mk.injEq, and_true] at hp2
        obtain ⟨rfl, rfl⟩ := hp2
        have kz : (0 : Int) < ((k + 1 : Nat) : Int) := by omega
        have kz' : (0 : Int) < (k : Int) + 1 := by omega
        have HAq := Lib.hid ha
        obtain ⟨l, hl⟩ : ∃ l, ltL a.p g.p = l := ⟨_, rfl⟩
        have LC : Hid (∀ q', Calls Tryz.prog 41 #[.slice q2 m2 d2, .slice q m d] (wr.drewN q') fun e w' => e = .returned (.bool l) ∧ ∃ mm, w' = (wr.drewN q').drewN mm) := Lib.hid (fun q' => by
          have := less_q (HI2.keep (below_drewN (Below.refl _ _) q')) (HI.out.keep (below_drewN (Below.refl _ _) q'))
          rwa [hl] at this)
        clear ha HI2 hm2
        cases l
        · have HX : Hid (r = false) := Lib.hid (HRF.out (pile_no_srt (by rw [HN.out]; exact hlt) HAq.out HG.out hl))
          clear hl hbal
          go_wp2_with fail
          go_quiet (first | (go_at_call 42; exact Calls.quiet_of (BC.out _)) | (go_at_call 41; exact Calls.quiet_of (LC.out _)))
          all_goals
            go_wp2_with fail
            go_ret
            exact ⟨ret_bb HX.out.symm, below_drewN hbel _⟩
        · have HX : Hid (PileP n (gs.take (k + 1 + 1))) := Lib.hid (hP.out.snoc (by rw [HN.out]; exact hlt) HG.out hbal (by rw [HY.out]; omega) (by have := hS.out; rw [HY.out]; omega) (fun _ => by rw [Nat.add_sub_cancel, HAq.out]; exact hl))
          have HS : Hid (s - y = 100000 - totS (gs.take (k + 1 + 1))) := Lib.hid (by rw [take_snoc_g (by rw [HN.out]; exact hlt), HG.out, tot_snoc, HY.out, hS.out]; omega)
          clear hl hbal
          go_wp2_with fail
          go_quiet (first | (go_at_call 42; exact Calls.quiet_of (BC.out _)) | (go_at_call 41; exact Calls.quiet_of (LC.out _)))
          all_goals
            go_wp2_with fail
            go_roundw
            case rel => exact ⟨k + 1 + 1, s - y, by omega, by go_num, rfl, below_drewN hbel _, HS, HX, by omega, by omega⟩
            case measure => simp [intOf] <;> omega
    · have hltz : ¬ (k : Int) < (len : Int) := by omega
      have HX : Hid (r = true) := Lib.hid (HRT.out (by have := hP.out; rwa [List.take_of_length_le (by rw [HN.out]; omega)] at this))
      go_wp2_with fail
      go_ret
      exact ⟨ret_bb HX.out.symm, hbel⟩

set_option maxHeartbeats 1000000 in
theorem rpile_c {v : Value} {gs : List Grp} {w : World} (hv : PileAt w v gs) :
    Calls Tryz.prog 56 #[v] w fun e w' => e = .returned (.bool (pileS 7 gs)) ∧ Below w.heap.size w w' := by
  have V := rvalid_c hv 7
  rw [valid_in (by omega) (by omega)] at V
  obtain ⟨r, hr⟩ : ∃ r, pileS 7 gs = r := ⟨_, rfl⟩
  rw [hr] at V ⊢
  have V := Lib.hid V
  clear hv hr
  go_enter Tryz.func56, Tryz.ntmps56
  go_wp2_with (go_at_call 54; ((with_reducible refine V.out.mono ?_); rintro _ w1 ⟨rfl, hb1⟩))
  go_ret
  exact ⟨rfl, hb1⟩

end Go.Proofs.YtbnhgmikegdppaaGreat

/- The reference's Fit, for IRV. -/
namespace Go.Proofs.YtbnhgmikegdppaaGreat
open Go.RowKit Go.Proofs.Kit Go.Proofs.Nums

set_option maxHeartbeats 1000000 in
theorem rperm_c {v : Value} {l : List Int} {w : World} (hv : IntsAt w v l) (n : Nat) :
    Calls Tryz.prog 55 #[.int .i64 n, v] w fun e w' => e = .returned (.bool (permB n l)) ∧ Below w.heap.size w w' := by
  by_cases h : l.length = n
  · subst h
    have := permutation_c hv
    unfold permB
    simpa using this
  · have hp : permB n l = false := by unfold permB; rw [decide_eq_false h]; rfl
    have hlm := hv.len
    obtain ⟨p, c, rfl⟩ := hv.shape
    rw [hp]
    obtain ⟨len, hlen⟩ : ∃ n, l.length = n := ⟨_, rfl⟩
    rw [hlen] at h hlm ⊢
    have d1 : ((len : Int) == (n : Int)) = false := by rw [beq_eq_false_iff_ne]; omega
    clear hv hlen hp
    go_enter Tryz.func55, Tryz.ntmps55
    go_wp2_with fail
    go_ret
    exact ⟨rfl, Below.refl _ _⟩

set_option maxRecDepth 100000 in
set_option maxHeartbeats 8000000 in
theorem rfit_c {nm : Value} {p : Option Addr} {n c : Nat} {cm seats ranks digits ties over skip : Int} {vg vl : Value} {gs : List Grp} {lots : List Int} {w : World} (_hn : n ≤ 1000) (hg : PileAt w vg gs) (hl : IntsAt w vl lots) :
    Calls Tryz.prog 30 #[.int .i64 1, conV nm p n c cm seats ranks digits ties over skip, vg, vl] w fun e w' => e = .returned (.int .i64 (fitS n cm seats digits ties gs lots)) ∧ Below w.heap.size w w' := by
  have hbA : Below w.heap.size w (w.alloc (.cells #[nm, .slice p n c, .int .i64 cm, .int .i64 seats, .int .i64 ranks, .int .i64 digits, .int .i64 ties, .int .i64 over, .int .i64 skip] 24)) := (Below.refl _ _).alloc (Nat.le_refl _) _
  unfold conV fitS
  by_cases h1 : cm = 1
  · subst h1
    rw [if_pos rfl]
    by_cases hall : 1 ≤ n ∧ n ≤ 7 ∧ seats = 1 ∧ digits = 0 ∧ 1 ≤ ties ∧ ties ≤ 3
    · obtain ⟨a1, a2, rfl, rfl, a5, a6⟩ := hall
      rw [if_pos ⟨a1, a2, rfl, rfl, a5, a6⟩]
      have d1 : decide ((n : Int) < 1) = false := decide_eq_false (by omega)
      have d2 : decide ((7 : Int) < n) = false := decide_eq_false (by omega)
      have d3 : decide (ties < 1) = false := decide_eq_false (by omega)
      have d4 : decide (3 < ties) = false := decide_eq_false (by omega)
      have PI : Hid (∀ w', Below w.heap.size w w' → Calls Tryz.prog 54 #[.int .i64 n, vg] w' fun e w'' => e = .returned (.bool (pileS n gs)) ∧ Below w'.heap.size w' w'') := Lib.hid (fun w' h => by
        have := rvalid_c (hg.keep h) n
        rwa [valid_in (by omega) (by omega)] at this)
      have PE : Hid (∀ w', Below w.heap.size w w' → Calls Tryz.prog 55 #[.int .i64 n, vl] w' fun e w'' => e = .returned (.bool (permB n lots)) ∧ Below w'.heap.size w' w'') := Lib.hid (fun w' h => rperm_c (hl.keep h) n)
      obtain ⟨x, hx⟩ : ∃ x, pileS n gs = x := ⟨_, rfl⟩
      obtain ⟨y, hy⟩ : ∃ x, permB n lots = x := ⟨_, rfl⟩
      rw [hx] at PI ⊢
      rw [hy] at PE ⊢
      clear hx hy hg hl
      cases x <;> cases y <;>
      ( go_enter Tryz.func30, Tryz.ntmps30
        go_wp2_with (first
          | (go_at_call 54; ((with_reducible refine (PI.out _ hbA).mono ?_); rintro _ w1 ⟨rfl, hb1⟩; have hB1 := bel2' hbA hb1))
          | (go_at_call 55; ((with_reducible refine (PE.out _ hB1).mono ?_); rintro _ w2 ⟨rfl, hb2⟩; have hB2 := bel2' hB1 hb2)))
        go_ret
        first | exact ⟨rfl, hB2⟩ | exact ⟨rfl, hB1⟩)
    · rw [if_neg hall]
      clear hg hl
      by_cases a1 : (n : Int) < 1
      · have d1 : decide ((n : Int) < 1) = true := decide_eq_true a1
        go_enter Tryz.func30, Tryz.ntmps30
        go_wp2_with fail
        go_ret
        exact ⟨rfl, hbA⟩
      have d1 : decide ((n : Int) < 1) = false := decide_eq_false a1
      by_cases a2 : (7 : Int) < n
      · have d2 : decide ((7 : Int) < n) = true := decide_eq_true a2
        go_enter Tryz.func30, Tryz.ntmps30
        go_wp2_with fail
        go_ret
        exact ⟨rfl, hbA⟩
      have d2 : decide ((7 : Int) < n) = false := decide_eq_false a2
      by_cases a3 : seats < 1
      · have d3 : decide (seats < 1) = true := decide_eq_true a3
        go_enter Tryz.func30, Tryz.ntmps30
        go_wp2_with fail
        go_ret
        exact ⟨rfl, hbA⟩
      have d3 : decide (seats < 1) = false := decide_eq_false a3
      by_cases a4 : 5 < seats
      · have d4 : decide (5 < seats) = true := decide_eq_true a4
        go_enter Tryz.func30, Tryz.ntmps30
        go_wp2_with fail
        go_ret
        exact ⟨rfl, hbA⟩
      have d4 : decide (5 < seats) = false := decide_eq_false a4
      by_cases a5 : seats = 1
      · subst a5
        by_cases a6 : digits = 0
        · subst a6
          by_cases a7 : ties < 1
          · have d7 : decide (ties < 1) = true := decide_eq_true a7
            go_enter Tryz.func30, Tryz.ntmps30
            go_wp2_with fail
            go_ret
            exact ⟨rfl, hbA⟩
          have d7 : decide (ties < 1) = false := decide_eq_false a7
          have d8 : decide (3 < ties) = true := decide_eq_true (by omega)
          go_enter Tryz.func30, Tryz.ntmps30
          go_wp2_with fail
          go_ret
          exact ⟨rfl, hbA⟩
        · have e6 : (digits == 0) = false := by rw [beq_eq_false_iff_ne]; exact a6
          go_enter Tryz.func30, Tryz.ntmps30
          go_wp2_with fail
          go_ret
          exact ⟨rfl, hbA⟩
      · have e5 : (seats == 1) = false := by rw [beq_eq_false_iff_ne]; exact a5
        have e5' : (seats != 1) = true := by simpa using a5
        go_enter Tryz.func30, Tryz.ntmps30
        go_wp2_with fail
        go_ret
        exact ⟨rfl, hbA⟩
  · have d1 : (cm == 1) = false := by rw [beq_eq_false_iff_ne]; exact h1
    have d2 : (cm != 1) = true := by simpa using h1
    rw [if_neg h1]
    go_enter Tryz.func30, Tryz.ntmps30
    go_wp2_with fail
    go_ret
    exact ⟨rfl, hbA⟩

end Go.Proofs.YtbnhgmikegdppaaGreat

/- The reference's Add and Make; electionmake.Ballots and Pile. -/
namespace Go.Proofs.Nums

theorem add_lt {g : Grp} {t : List Grp} {p : List Int} {k : Int} (h : ltL g.p p = true) : addS (g :: t) p k = g :: addS t p k := by rw [addS, if_pos h]
theorem add_eq {g : Grp} {t : List Grp} {p : List Int} {k : Int} (h : ltL g.p p = false) (e : g.p = p) : addS (g :: t) p k = ⟨g.p, g.n + k⟩ :: t := by
  rw [addS, h, if_neg (by simp), if_pos e]
theorem add_gt {g : Grp} {t : List Grp} {p : List Int} {k : Int} (h : ltL g.p p = false) (e : g.p ≠ p) : addS (g :: t) p k = ⟨p, k⟩ :: g :: t := by
  rw [addS, h, if_neg (by simp), if_neg e]
/-- Where the first k groups are copied. -/
def AddI (gs : List Grp) (p : List Int) (K : Int) (k : Nat) (dn : Bool) (o : List Grp) : Prop :=
  (dn = true → addS gs p K = o ++ gs.drop k) ∧ (dn = false → addS gs p K = o ++ addS (gs.drop k) p K)
theorem AddI.start (gs : List Grp) (p : List Int) (K : Int) : AddI gs p K 0 false [] := ⟨fun h => by simp at h, fun _ => rfl⟩
theorem AddI.copy {gs : List Grp} {p : List Int} {K : Int} {k : Nat} {o : List Grp} {g : Grp} (h : AddI gs p K k true o) (hk : k < gs.length) (hg : gs.getD k g0 = g) : AddI gs p K (k + 1) true (o ++ [g]) := by
  refine ⟨fun _ => ?_, fun h => by simp at h⟩
  rw [h.1 rfl, drop_cons (d := g0) hk, hg, List.append_assoc]
  rfl
theorem AddI.before {gs : List Grp} {p : List Int} {K : Int} {k : Nat} {o : List Grp} {g : Grp} (h : AddI gs p K k false o) (hk : k < gs.length) (hg : gs.getD k g0 = g) (hl : ltL g.p p = true) : AddI gs p K (k + 1) false (o ++ [g]) := by
  refine ⟨fun h => by simp at h, fun _ => ?_⟩
  rw [h.2 rfl, drop_cons (d := g0) hk, hg, add_lt hl, List.append_assoc]
  rfl
theorem AddI.same {gs : List Grp} {p : List Int} {K : Int} {k : Nat} {o : List Grp} {g : Grp} (h : AddI gs p K k false o) (hk : k < gs.length) (hg : gs.getD k g0 = g) (hl : ltL g.p p = false) (e : g.p = p) : AddI gs p K (k + 1) true (o ++ [⟨g.p, g.n + K⟩]) := by
  refine ⟨fun _ => ?_, fun h => by simp at h⟩
  rw [h.2 rfl, drop_cons (d := g0) hk, hg, add_eq hl e, List.append_assoc]
  rfl
theorem AddI.here {gs : List Grp} {p : List Int} {K : Int} {k : Nat} {o : List Grp} {g : Grp} (h : AddI gs p K k false o) (hk : k < gs.length) (hg : gs.getD k g0 = g) (hl : ltL g.p p = false) (e : g.p ≠ p) : AddI gs p K (k + 1) true ((o ++ [⟨p, K⟩]) ++ [g]) := by
  refine ⟨fun _ => ?_, fun h => by simp at h⟩
  rw [h.2 rfl, drop_cons (d := g0) hk, hg, add_gt hl e, List.append_assoc, List.append_assoc]
  rfl
theorem AddI.end1 {gs : List Grp} {p : List Int} {K : Int} {k : Nat} {o : List Grp} (h : AddI gs p K k true o) (hk : gs.length ≤ k) : o = addS gs p K := by
  rw [h.1 rfl, List.drop_of_length_le hk, List.append_nil]
theorem AddI.end0 {gs : List Grp} {p : List Int} {K : Int} {k : Nat} {o : List Grp} (h : AddI gs p K k false o) (hk : gs.length ≤ k) : o ++ [⟨p, K⟩] = addS gs p K := by
  rw [h.2 rfl, List.drop_of_length_le hk]
  rfl
def srtG (gs : List Grp) : Prop := gs.Pairwise fun a b => ltL a.p b.p = true
theorem add_mem {p : List Int} {K : Int} : ∀ {gs : List Grp}, ∀ x ∈ addS gs p K, x.p = p ∨ ∃ g ∈ gs, x.p = g.p
  | [], x, hx => by
    rw [addS, List.mem_singleton] at hx
    exact .inl (by rw [hx])
  | g :: t, x, hx => by
    cases hl : ltL g.p p with
    | true =>
      rw [add_lt hl, List.mem_cons] at hx
      rcases hx with rfl | hx
      · exact .inr ⟨x, List.mem_cons_self .., rfl⟩
      · rcases add_mem x hx with h | ⟨g', hg', h⟩
        · exact .inl h
        · exact .inr ⟨g', List.mem_cons_of_mem _ hg', h⟩
    | false =>
      by_cases e : g.p = p
      · rw [add_eq hl e, List.mem_cons] at hx
        rcases hx with rfl | hx
        · exact .inl e
        · exact .inr ⟨x, List.mem_cons_of_mem _ hx, rfl⟩
      · rw [add_gt hl e, List.mem_cons] at hx
        rcases hx with rfl | hx
        · exact .inl rfl
        · exact .inr ⟨x, hx, rfl⟩
theorem add_srt {p : List Int} {K : Int} : ∀ {gs : List Grp}, srtG gs → srtG (addS gs p K)
  | [], _ => List.pairwise_singleton _ _
  | g :: t, h => by
    obtain ⟨h1, h2⟩ := List.pairwise_cons.1 h
    cases hl : ltL g.p p with
    | true =>
      rw [add_lt hl]
      refine List.pairwise_cons.2 ⟨fun x hx => ?_, add_srt h2⟩
      rcases add_mem x hx with e | ⟨g', hg', e⟩
      · rw [e]; exact hl
      · rw [e]; exact h1 g' hg'
    | false =>
      by_cases e : g.p = p
      · rw [add_eq hl e]
        exact List.pairwise_cons.2 ⟨h1, h2⟩
      · rw [add_gt hl e]
        have hp : ltL p g.p = true := by
          cases hx : ltL p g.p with
          | true => rfl
          | false => exact absurd (ltL_neither.1 ⟨hl, hx⟩) e
        refine List.pairwise_cons.2 ⟨fun x hx => ?_, h⟩
        rcases List.mem_cons.1 hx with rfl | hx
        · exact hp
        · exact ltL_tr hp (h1 x hx)
theorem mem_tot {gs : List Grp} (hp : PosG gs) {g : Grp} (hg : g ∈ gs) : g.n ≤ totS gs := by
  induction gs with
  | nil => simp at hg
  | cons a t ih =>
    have ht := sumF_nn (f := fun _ => true) hp.tail
    unfold totS at ih ⊢
    rw [sumF_cons, if_pos rfl]
    rcases List.mem_cons.1 hg with rfl | hg
    · omega
    · have := ih hp.tail hg
      have := hp a (List.mem_cons_self ..)
      omega
theorem len_tot {gs : List Grp} (hp : PosG gs) : (gs.length : Int) ≤ totS gs := by
  induction gs with
  | nil => exact Int.le_refl _
  | cons a t ih =>
    have h1 := ih hp.tail
    have := hp a (List.mem_cons_self ..)
    unfold totS at h1 ⊢
    rw [sumF_cons, if_pos rfl, List.length_cons]
    omega
theorem add_tot (gs : List Grp) (p : List Int) (K : Int) : totS (addS gs p K) = totS gs + K := by
  unfold totS
  rw [sumF_add, if_pos rfl]
theorem PileP.add {n : Int} {gs : List Grp} {p : List Int} {K : Int} (h : PileP n gs) (hp : BalP n p) (hK : 1 ≤ K) (ht : totS gs + K ≤ 100000) : PileP n (addS gs p K) :=
  ⟨mem_add h.bal hp, h.pos.add p hK, by rw [add_tot]; exact ht, add_srt h.srt⟩
theorem make_tot (bs : List (List Int)) : totS (makeS bs) = bs.length := by
  unfold totS
  rw [make_sum, List.countP_true]
theorem fold_srt : ∀ {bs : List (List Int)} {gs : List Grp}, srtG gs → srtG (bs.foldl (fun gs b => addS gs b 1) gs)
  | [], _, h => h
  | _ :: bs, _, h => fold_srt (bs := bs) (add_srt h)
theorem make_pile {n : Int} {bs : List (List Int)} (hb : ∀ b ∈ bs, BalP n b) (hl : bs.length ≤ 100000) : PileP n (makeS bs) :=
  ⟨make_mem hb, make_pos bs, by rw [make_tot]; omega, fold_srt List.Pairwise.nil⟩
theorem take_snoc_l {L : List (List Int)} {k : Nat} {r : List Int} (h : k < L.length) (hr : L.getD k [] = r) : L.take (k + 1) = L.take k ++ [r] := by
  rw [List.take_add_one, ← hr, List.getD_eq_getElem?_getD, List.getElem?_eq_getElem h]
  rfl

end Go.Proofs.Nums
namespace Go.Proofs.YtbnhgmikegdppaaGreat
open Go.RowKit Go.Proofs.Kit Go.Proofs.Nums

theorem erG : ElemRow Tryz.prog 25 56 (.agg #[.slice none 0 0, .int .i64 0]) 2 32 := ⟨Tryz.underlying25, by kernel_rfl, rfl, by decide⟩
/-- A row that stands is read off the blocks there are. -/
theorem ints_old {w : World} {v : Value} {l : List Int} (h : IntsAt w v l) : On (fun b => b < w.heap.size) (fun w => IntsAt w v l) w := by
  cases l with
  | nil =>
    intro w' _
    obtain ⟨p, cap, e, h1, h2, h3, h4⟩ := h
    exact ⟨p, cap, e, h1, h2, h3, fun _ _ i x hi => by simp at hi⟩
  | cons a t => exact On.mono (RowAt.on_own h) fun b hb => RowAt.block_lt h (by simp) hb
theorem grp_old {w : World} {v : Value} {y : Int} {p : List Int} (h : IntsAt w v p) : On (fun b => b < w.heap.size) (fun w => groupR w [v, .int .i64 y] ⟨p, y⟩) w :=
  (ints_old h).imp fun _ g => ⟨v, rfl, g⟩
abbrev GLst (B : Nat) (v : Value) (w : World) (l : List Grp) (css : List (List Value)) : Prop := Lst groupR 0 B 56 2 v w l css
theorem old_elt {α : Type} {R : World → List Value → α → Prop} {e : TypeId} {k : Nat} {w wz : World} {v : Value} {l : List α} {css : List (List Value)} {S : World → Prop} (h : On (fun b => b < w.heap.size) S w) (hb : Below w.heap.size w wz) (hL : Lst R 0 w.heap.size e k v wz l css) : On (fun b => 0 ≤ b ∧ b < wz.heap.size ∧ v.ownBlock ≠ some b) S wz :=
  On.mono (On.step h fun b hb' => hb.block b hb') fun b hb' => ⟨Nat.zero_le b, Nat.lt_of_lt_of_le hb' hb.size, fun e => by have := (hL.lt b e).1; omega⟩

set_option maxRecDepth 100000 in
set_option maxHeartbeats 8000000 in
theorem radd_c {vg vp : Value} {gs : List Grp} {p : List Int} {K : Int} {w : World} (hg : PileAt w vg gs) (hp : IntsAt w vp p) (hr : ∀ g ∈ gs, 0 ≤ g.n ∧ g.n ≤ 1000000) (hK : 0 ≤ K ∧ K ≤ 1000000) (hl : gs.length ≤ 1000000) :
    Calls Tryz.prog 43 #[vg, vp, .int .i64 K] w fun e w' => ∃ v', e = .returned v' ∧ PileAt w' v' (addS gs p K) ∧ Below w.heap.size w w' := by
  have HG := Lib.hid hg
  have HP := Lib.hid hp
  have HR := Lib.hid hr
  have hKz := hK
  obtain ⟨pg, cg, rfl⟩ := hg.shp
  obtain ⟨pp, cp, rfl⟩ := hp.shape
  obtain ⟨np, hnp⟩ : ∃ n, p.length = n := ⟨_, rfl⟩
  obtain ⟨len, hlen⟩ : ∃ n, gs.length = n := ⟨_, rfl⟩
  have HN := Lib.hid hlen
  rw [hlen] at HG hl ⊢
  rw [hnp] at HP ⊢
  have PE := Lib.hid (grp_old (y := K) HP.out)
  clear hg hp hr hK hlen hnp
  go_enter Tryz.func43, Tryz.ntmps43
  go_wp2_with fail
  go_loopw [7, 8, 9] (fun ov dv iv wr => ∃ k : Nat, ∃ dn : Bool, ∃ o css, k ≤ len ∧ ((dn = false → o.length ≤ k) ∧ o.length ≤ k + 1) ∧ iv = .int .i64 k ∧ dv = .bool dn ∧ Below w.heap.size w wr ∧ Hid (GLst w.heap.size ov wr o css) ∧ Hid (AddI gs p K k dn o)) (fun _ _ iv _ => len - (intOf iv).toNat)
  case atStart => exact ⟨0, false, [], [], by omega, ⟨fun _ => by simp, by simp⟩, rfl, rfl, Below.refl _ _, Lib.hid (Lst.nil _), Lib.hid (AddI.start _ _ _)⟩
  case round =>
    obtain ⟨k, dn, o, css, hk, ⟨hol0, hol⟩, rfl, rfl, hbel, hL, hI⟩ := hrel
    by_cases hlt : k < len
    · have hltz : (k : Int) < (len : Int) := by omega
      obtain ⟨g, hg⟩ : ∃ g, gs.getD k g0 = g := ⟨_, rfl⟩
      obtain ⟨bb, off, q, m, d, hp0, hc1, hc2, cl0, cl1, HI, hm⟩ := HG.out.cellAt (by rw [HN.out]; exact hlt) hg
      subst hp0
      have hgm : g ∈ gs := mem_getG (by rw [HN.out]; exact hlt) hg
      have hgn := HR.out g hgm
      obtain ⟨gp, gn⟩ := g
      simp only at cl1 HI hm hgn
      have GE := Lib.hid (grp_old (y := gn) HI)
      have GE2 := Lib.hid (grp_old (y := gn + K) HI)
      have cl0 := cell_keep hbel cl0
      have cl1 := cell_keep hbel cl1
      have hws : IntKind.i64.wrap (gn + K) = gn + K := w64 (by omega) (by omega)
      have HGt := Lib.hid hg
      have hbl : Below wr.heap.size wr (wr.alloc (.cells #[.slice q m d, .int .i64 gn] 56)) := (Below.refl _ _).alloc (Nat.le_refl _) _
      have KX := Blk.new wr #[.slice q m d, .int .i64 gn] 56
      have hbX : Below w.heap.size w (wr.alloc (.cells #[.slice q m d, .int .i64 gn] 56)) := hbel.alloc hbel.size _
      have hLX := Lib.hid (hL.out.keep hbl)
      obtain ⟨X, hX⟩ : ∃ X, wr.alloc (.cells #[.slice q m d, .int .i64 gn] 56) = X := ⟨_, rfl⟩
      rw [hX] at hbl KX hbX hLX
      have x0 : X.cell? ⟨wr.heap.size, 0, none⟩ = some (.slice q m d) := KX.2.1 0
      have x1 : X.cell? ⟨wr.heap.size, 1, none⟩ = some (.int .i64 gn) := KX.2.1 1
      cases dn
      · have hol0 := hol0 rfl
        obtain ⟨l, hl1⟩ : ∃ l, ltL gp p = l := ⟨_, rfl⟩
        have LC : Hid (Calls Tryz.prog 41 #[.slice q m d, .slice pp np cp] X fun e w' => e = .returned (.bool l) ∧ Below X.heap.size X w') := Lib.hid (by
          have := less_c (HI.keep hbX) (HP.out.keep hbX)
          rwa [hl1] at this)
        cases l
        · obtain ⟨b, hb1⟩ : ∃ b, decide (gp = p) = b := ⟨_, rfl⟩
          have EC : Hid (∀ wq, Below w.heap.size w wq → Calls Tryz.prog 17 #[.slice q m d, .slice pp np cp] wq fun e w' => e = .returned (.bool b) ∧ Below wq.heap.size wq w') := Lib.hid (fun wq h => by
            have := eq_c (HI.keep h) (HP.out.keep h)
            rwa [hb1] at this)
          cases b
          · have HA := Lib.hid (hI.out.here (by rw [HN.out]; exact hlt) HGt.out hl1 (of_decide_eq_false hb1))
            clear hb1 hl1 HI hm hg hI
            go_wp2_with (first
              | (go_at_call 41; ((with_reducible refine LC.out.mono ?_); rintro _ w1 ⟨rfl, hb1⟩; have hB1 := bel2' hbX hb1; have y0 := cell_keep hb1 x0; have y1 := cell_keep hb1 x1; have hL1 := Lib.hid (hLX.out.keep hb1)))
              | (go_at_call 17; ((with_reducible refine (EC.out _ hB1).mono ?_); rintro _ w2 ⟨rfl, hb2⟩; have hB2 := bel2' hB1 hb2; have y0 := cell_keep hb2 y0; have y1 := cell_keep hb2 y1; have hL2 := Lib.hid (hL1.out.keep hb2)))
              | (at_builtin; (first
                | (refine append_lst erG rfl rfl HL3.out rfl rfl rfl (by simp [Value.oneCell']) (by simp; omega) (by simp; omega) hB3.size (old_elt GE.out hB3 HL3.out) ?_; intro v4 w4 hL4 hb4 hg4 hv4; have HL4 := Lib.hid hL4; have hB4 := hB3.trans hb4; clear hL4)
                | (refine append_lst erG rfl rfl hL2.out rfl rfl rfl (by simp [Value.oneCell']) (by omega) (by omega) hB2.size (old_elt PE.out hB2 hL2.out) ?_; intro v3 w3 hL3 hb3 hg3 hv3; have HL3 := Lib.hid hL3; have hB3 := hB2.trans hb3; have y0 := (hg3.cell_far ⟨wr.heap.size, 0, none⟩ (World.block_lt_of_cell? _ _ y0) (by intro e; have := (hL.out.lt wr.heap.size e.symm).2; omega)).trans y0; have y1 := (hg3.cell_far ⟨wr.heap.size, 1, none⟩ (World.block_lt_of_cell? _ _ y1) (by intro e; have := (hL.out.lt wr.heap.size e.symm).2; omega)).trans y1; clear hL3))))
            go_roundw
            case rel => exact ⟨k + 1, true, _, _, by omega, ⟨fun h => by simp at h, by simp; omega⟩, by go_num, rfl, hB4, HL4, HA⟩
            case measure => simp [intOf] <;> omega
          · have HA := Lib.hid (hI.out.same (by rw [HN.out]; exact hlt) HGt.out hl1 (of_decide_eq_true hb1))
            clear hb1 hl1 HI hm hg hI
            go_wp2_with (first
              | (go_at_call 41; ((with_reducible refine LC.out.mono ?_); rintro _ w1 ⟨rfl, hb1⟩; have hB1 := bel2' hbX hb1; have y0 := cell_keep hb1 x0; have y1 := cell_keep hb1 x1; have hL1 := Lib.hid (hLX.out.keep hb1)))
              | (go_at_call 17; ((with_reducible refine (EC.out _ hB1).mono ?_); rintro _ w2 ⟨rfl, hb2⟩; have hB2 := bel2' hB1 hb2; have y0 := cell_keep hb2 y0; have y1 := cell_keep hb2 y1; have hL2 := Lib.hid (hL1.out.keep hb2)))
              | (at_builtin; go_must (refine append_lst erG rfl rfl hL2.out rfl rfl rfl (by simp [Value.oneCell']) (by omega) (by omega) hB2.size (old_elt GE2.out hB2 hL2.out) ?_); intro v3 w3 hL3 hb3 hg3 hv3; have HL3 := Lib.hid hL3; have hB3 := hB2.trans hb3; clear hL3))
            go_roundw
            case rel => exact ⟨k + 1, true, _, _, by omega, ⟨fun h => by simp at h, by simp; omega⟩, by go_num, rfl, hB3, HL3, HA⟩
            case measure => simp [intOf] <;> omega
        · have HA := Lib.hid (hI.out.before (by rw [HN.out]; exact hlt) HGt.out hl1)
          clear hl1 HI hm hg hI
          go_wp2_with (first
            | (go_at_call 41; ((with_reducible refine LC.out.mono ?_); rintro _ w1 ⟨rfl, hb1⟩; have hB1 := bel2' hbX hb1; have y0 := cell_keep hb1 x0; have y1 := cell_keep hb1 x1; have hL1 := Lib.hid (hLX.out.keep hb1)))
            | (at_builtin; go_must (refine append_lst erG rfl rfl hL1.out rfl rfl rfl (by simp [Value.oneCell']) (by omega) (by omega) hB1.size (old_elt GE.out hB1 hL1.out) ?_); intro v3 w3 hL3 hb3 hg3 hv3; have HL3 := Lib.hid hL3; have hB3 := hB1.trans hb3; clear hL3))
          go_roundw
          case rel => exact ⟨k + 1, false, _, _, by omega, ⟨fun _ => by simp; omega, by simp; omega⟩, by go_num, rfl, hB3, HL3, HA⟩
          case measure => simp [intOf] <;> omega
      · have HA := Lib.hid (hI.out.copy (by rw [HN.out]; exact hlt) HGt.out)
        clear HI hm hg hI
        go_wp2_with (at_builtin; go_must (refine append_lst erG rfl rfl hLX.out rfl rfl rfl (by simp [Value.oneCell']) (by omega) (by omega) hbX.size (old_elt GE.out hbX hLX.out) ?_); intro v3 w3 hL3 hb3 hg3 hv3; have HL3 := Lib.hid hL3; have hB3 := hbX.trans hb3; clear hL3)
        go_roundw
        case rel => exact ⟨k + 1, true, _, _, by omega, ⟨fun h => by simp at h, by simp; omega⟩, by go_num, rfl, hB3, HL3, HA⟩
        case measure => simp [intOf] <;> omega
    · have hltz : ¬ (k : Int) < (len : Int) := by omega
      cases dn
      · have HX := Lib.hid (hI.out.end0 (by rw [HN.out]; omega))
        go_wp2_with (at_builtin; go_must (refine append_lst erG rfl rfl hL.out rfl rfl rfl (by simp [Value.oneCell']) (by omega) (by omega) hbel.size (old_elt PE.out hbel hL.out) ?_); intro v3 w3 hL3 hb3 hg3 hv3; have HL3 := Lib.hid hL3; have hB3 := hbel.trans hb3; clear hL3)
        go_ret
        exact ⟨_, rfl, by rw [← HX.out]; exact HL3.out.slice, hB3⟩
      · have HX := Lib.hid (hI.out.end1 (by rw [HN.out]; omega))
        go_wp2_with fail
        go_ret
        exact ⟨_, rfl, by rw [← HX.out]; exact hL.out.slice, hbel⟩

end Go.Proofs.YtbnhgmikegdppaaGreat

/- The reference's Make; electionmake.Ballots, Pile; few, Short, All. -/
namespace Go.Proofs.YtbnhgmikegdppaaGreat
open Go.RowKit Go.Proofs.Kit Go.Proofs.Nums

set_option maxRecDepth 100000 in
set_option maxHeartbeats 8000000 in
theorem rmake_c {vb : Value} {L : List (List Int)} {n : Nat} {w : World} (hv : GridAt w vb L) (h1 : 1 ≤ n) (h7 : n ≤ 7) (hb : ∀ b ∈ L, BalP n b) (hl : L.length ≤ 100000) :
    Calls Tryz.prog 18 #[.int .i64 n, vb] w fun e w' => ∃ v', e = .returned (.tuple #[v', .int .i64 0]) ∧ PileAt w' v' (makeS L) ∧ Below w.heap.size w w' := by
  have HV := Lib.hid hv
  have HB := Lib.hid hb
  obtain ⟨p, c, rfl⟩ := hv.shp
  obtain ⟨len, hlen⟩ : ∃ n, L.length = n := ⟨_, rfl⟩
  have HN := Lib.hid hlen
  rw [hlen] at HV hl ⊢
  have d1 : decide ((n : Int) < 1) = false := decide_eq_false (by omega)
  have d2 : decide (7 < (n : Int)) = false := decide_eq_false (by omega)
  have d3 : decide (100000 < (len : Int)) = false := decide_eq_false (by omega)
  clear hv hb hlen
  go_enter Tryz.func18, Tryz.ntmps18
  go_wp2_with fail
  go_loopw [6, 7] (fun gv iv wr => ∃ k : Nat, k ≤ len ∧ iv = .int .i64 k ∧ Below w.heap.size w wr ∧ Hid (PileAt wr gv (makeS (L.take k)))) (fun _ iv _ => len - (intOf iv).toNat)
  case atStart => exact ⟨0, by omega, rfl, Below.refl _ _, Lib.hid (SliceOf.nil _)⟩
  case round =>
    obtain ⟨k, hk, rfl, hbel, hG⟩ := hrel
    by_cases hlt : k < len
    · have hltz : (k : Int) < (len : Int) := by omega
      obtain ⟨b, hbk⟩ : ∃ b, L.getD k [] = b := ⟨_, rfl⟩
      obtain ⟨bb, off, u, hp0, hc1, hc2, hcell, hrow⟩ := (HV.out.keep hbel).cellAt (by rw [HN.out]; exact hlt) hbk
      subst hp0
      have hbm : b ∈ L := by
        rw [← hbk, List.getD_eq_getElem?_getD, List.getElem?_eq_getElem (by rw [HN.out]; exact hlt)]
        exact List.getElem_mem _
      have hbal := HB.out b hbm
      have hbl7 : b.length ≤ n := nodup_len n b hbal.2 hbal.1
      have BC := ballot_c hrow n
      rw [show balS n b = true from decide_eq_true hbal] at BC
      have BC := Lib.hid BC
      have hsn := take_snoc_l (by rw [HN.out]; exact hlt) hbk
      have hms : makeS (L.take (k + 1)) = addS (makeS (L.take k)) b 1 := by rw [hsn, makeS_snoc]
      have hpos := make_pos (L.take k)
      have hlt2 : (L.take k).length ≤ k := List.length_take_le _ _
      have htt := make_tot (L.take k)
      have AC : Hid (∀ wq v, Below wr.heap.size wr wq → IntsAt wq v b → Calls Tryz.prog 43 #[u6, v, .int .i64 1] wq fun e w' => ∃ v', e = .returned v' ∧ PileAt w' v' (makeS (L.take (k + 1))) ∧ Below wq.heap.size wq w') := Lib.hid (fun wq v h hv => by
        rw [hms]
        refine radd_c (hG.out.keep h) hv (fun g hg => ⟨?_, ?_⟩) (by omega) ?_
        · have := hpos g hg; omega
        · have := mem_tot hpos hg; omega
        · have := len_tot hpos; omega)
      have HR := Lib.hid hrow
      have hbl := hbl7
      have HO := Lib.hid (ints_one b)
      obtain ⟨q, d, rfl⟩ := hrow.shape
      obtain ⟨bl, hblq⟩ : ∃ n, b.length = n := ⟨_, rfl⟩
      rw [hblq] at hbl HR BC hcell
      have HBL := Lib.hid hblq
      have O := Lib.hid (fun wq : World => (World.ownsRow_nil _ _ _ _ : wq.ownsRow wq.heap.size 3 1 (.slice none 0 0) 0 []))
      clear hbk hrow hbm hbal hms hsn hpos hlt2 htt hblq hbl7
      go_wp2_with (first
        | (go_at_call 42; ((with_reducible refine BC.out.mono ?_); rintro _ w1 ⟨rfl, hb1⟩; have hcell1 := cell_keep hb1 hcell))
        | (at_builtin; go_must (refine append_read erI (by rfl) (by rfl) (O.out _) (by rfl) (HR.out.keep hb1) (by rfl) HO.out (by rw [List.length_map, HBL.out]; omega) (by rw [List.length_map, HBL.out]; omega) (Nat.le_refl _) ?_); intro v2 w2 hown2 hb2; have hi2 : IntsAt w2 v2 b := RowAt.owned hown2; have hB2 := bel2' hb1 hb2; clear hown2)
        | (go_at_call 43; ((with_reducible refine (AC.out _ _ hB2 hi2).mono ?_); rintro _ w3 ⟨v3, rfl, h3, hb3⟩; have hB3 := bel2' hB2 hb3; have H3 := Lib.hid h3; clear h3)))
      go_roundw
      case rel => exact ⟨k + 1, by omega, by go_num, bel2' hbel hB3, H3⟩
      case measure => simp [intOf] <;> omega
    · obtain rfl : len = k := by omega
      have hltz : ¬ (len : Int) < (len : Int) := by omega
      have HX : Hid (PileAt wr u6 (makeS L)) := Lib.hid (by have := hG.out; rwa [List.take_of_length_le (by rw [HN.out]; exact Nat.le_refl _)] at this)
      go_wp2_with fail
      go_ret2
      exact ⟨_, rfl, HX.out, hbel⟩

theorem erRI : ElemRow Tryz.prog 27 26 (.slice none 0 0) 1 24 := ⟨Tryz.underlying27, by kernel_rfl, rfl, by decide⟩
abbrev ILst (B : Nat) (v : Value) (w : World) (l : List (List Int)) (css : List (List Value)) : Prop := Lst rowI B B 26 1 v w l css

set_option maxRecDepth 100000 in
set_option maxHeartbeats 8000000 in
theorem mballots_c {vb : Value} {L : List (List Int)} {n : Nat} {w : World} (hv : GridAt w vb L) (h1 : 1 ≤ n) (h7 : n ≤ 7) (hf : ∀ r ∈ L, r.length ≤ 12) (hl : L.length ≤ 40) :
    Calls Tryz.prog 21 #[.int .i64 n, vb, .int .i64 40] w fun e w' => ∃ v', e = .returned v' ∧ (∃ css, ILst w.heap.size v' w' (L.map (ballotS n)) css) ∧ Below w.heap.size w w' := by
  have HV := Lib.hid hv
  have HF := Lib.hid hf
  obtain ⟨p, c, rfl⟩ := hv.shp
  obtain ⟨len, hlen⟩ : ∃ n, L.length = n := ⟨_, rfl⟩
  have HN := Lib.hid hlen
  rw [hlen] at HV hl ⊢
  clear hv hf hlen
  go_enter Tryz.func21, Tryz.ntmps21
  go_wp2_with fail
  go_loopw [7, 8] (fun ov iv wr => ∃ k : Nat, ∃ M css, k ≤ len ∧ M.length = k ∧ iv = .int .i64 k ∧ Below w.heap.size w wr ∧ Hid (ILst w.heap.size ov wr M css) ∧ Hid (M = (L.take k).map (ballotS n))) (fun _ iv _ => len - (intOf iv).toNat)
  case atStart => exact ⟨0, [], [], by omega, rfl, rfl, Below.refl _ _, Lib.hid (Lst.nil _), Lib.hid rfl⟩
  case round =>
    obtain ⟨k, M, css, hk, hM, rfl, hbel, hL, hE⟩ := hrel
    by_cases hlt : k < len
    · have hltz : (k : Int) < (len : Int) := by omega
      have hz40 : (k : Int) < 40 := by omega
      obtain ⟨b, hbk⟩ : ∃ b, L.getD k [] = b := ⟨_, rfl⟩
      obtain ⟨bb, off, u, hp0, hc1, hc2, hcell, hrow⟩ := (HV.out.keep hbel).cellAt (by rw [HN.out]; exact hlt) hbk
      subst hp0
      have hbm : b ∈ L := by
        rw [← hbk, List.getD_eq_getElem?_getD, List.getElem?_eq_getElem (by rw [HN.out]; exact hlt)]
        exact List.getElem_mem _
      have hb12 := HF.out b hbm
      have hsn := take_snoc_l (by rw [HN.out]; exact hlt) hbk
      have HS : Hid ((L.take (k + 1)).map (ballotS n) = M ++ [ballotS n b]) := Lib.hid (by rw [hsn, List.map_append, hE.out]; rfl)
      have hcap : ∃ q m d, u = .slice q m d ∧ m = b.length ∧ m ≤ d ∧ d ≤ 9223372036854775807 := by
        obtain ⟨q, d, e, i1, i2, _⟩ := hrow
        rw [List.length_map] at e i1
        exact ⟨q, _, d, e, rfl, i1, i2⟩
      obtain ⟨q, m, d, rfl, hm, hd1, hd2⟩ := hcap
      have HBC : Hid (∀ wq, Below wr.heap.size wr wq → Calls Tryz.prog 45 #[.int .i64 n, .slice q m d] wq fun e w' => ∃ q1 m1 d1, e = .returned (.slice q1 m1 d1) ∧ Made wq.heap.size (fun w => rowI w [.slice q1 m1 d1] (ballotS n b)) w' ∧ Below wq.heap.size wq w') := Lib.hid (fun wq h => by
        refine (mballot_c (hrow.keep h) n (by omega) (by omega)).mono ?_
        rintro e w' ⟨v', rfl, g1, g2, g3⟩
        obtain ⟨q1, d1, rfl⟩ := g1.shape
        exact ⟨_, _, _, rfl, (RowAt.made g1 g2).imp fun _ g => ⟨_, rfl, g⟩, g3⟩)
      have hmin : min (m : Int) 12 = m := by omega
      have hmd : (m : Int) ≤ (d : Int) := by omega
      have hm0 : (0 : Int) ≤ (m : Int) := by omega
      have hLr := Lib.hid hL.out
      clear hbk hrow hbm hsn hm
      go_wp2_with fail
      go_region_law (first
        | (refine step_append_lst erRI (by rfl) (by rfl) (hLr.out.keep (bal hBo _)) (by rfl) (by rfl) (c := [.slice q1 m1 d1]) (fun j u h => alloc_cell _ _ _ _ j u (by simpa using h)) (by rfl) (by simp [Value.oneCell']) (by omega) (by omega) (Nat.le_trans (bel2' hbel hBo).size (by simp)) (y := ballotS n b) (Lst.fresh_elt (hLr.out.keep hBq) (hm1.keep (bal (Below.refl _ _) _)) (bel2' hbel hBq).size) ?_; intro v' w5 hL5 hb5 _ _; have HL5 := Lib.hid hL5; have hB5 := (bal (bel2' hbel hBo) _).trans hb5; clear hL5)
        | (go_simp; go_wp2_with (go_at_call 45; ((with_reducible refine (HBC.out _ (Below.refl _ _).drew).mono ?_); rintro e w1 ⟨q1, m1, d1, rfl, hm1, hb1⟩; have hBq : Below wr.heap.size wr wr.drew := (Below.refl _ _).drew; have hBo := bel2' hBq hb1))))
      all_goals
        go_wp2_with fail
        go_roundw
        case rel => exact ⟨k + 1, _, _, by omega, by simp [hM], by go_num, hB5, HL5, Lib.hid HS.out.symm⟩
        case measure => simp [intOf] <;> omega
    · obtain rfl : len = k := by omega
      have hltz : ¬ (len : Int) < (len : Int) := by omega
      have HX : Hid (M = L.map (ballotS n)) := Lib.hid (by rw [hE.out, List.take_of_length_le (by rw [HN.out]; exact Nat.le_refl _)])
      go_wp2_with fail
      go_ret
      exact ⟨_, rfl, ⟨css, by rw [← HX.out]; exact hL.out⟩, hbel⟩

end Go.Proofs.YtbnhgmikegdppaaGreat

/- irv.Order. -/
namespace Go.Proofs.YtbnhgmikegdppaaGreat
open Go.RowKit Go.Proofs.Kit Go.Proofs.Nums

def lenV : Value → Nat
  | .slice _ n _ => n
  | _ => 0
theorem nine_cells {nm : Value} {p : Option Addr} {n c b : Nat} {cm seats ranks digits ties over skip : Int} {w : World} (h : Blk b #[nm, .slice p n c, .int .i64 cm, .int .i64 seats, .int .i64 ranks, .int .i64 digits, .int .i64 ties, .int .i64 over, .int .i64 skip] w) :
    w.cell? ⟨b, 0, none⟩ = some nm ∧ w.cell? ⟨b, 1, none⟩ = some (.slice p n c) ∧ w.cell? ⟨b, 2, none⟩ = some (.int .i64 cm) ∧ w.cell? ⟨b, 3, none⟩ = some (.int .i64 seats) ∧ w.cell? ⟨b, 4, none⟩ = some (.int .i64 ranks) ∧ w.cell? ⟨b, 5, none⟩ = some (.int .i64 digits) ∧ w.cell? ⟨b, 6, none⟩ = some (.int .i64 ties) ∧ w.cell? ⟨b, 7, none⟩ = some (.int .i64 over) ∧ w.cell? ⟨b, 8, none⟩ = some (.int .i64 skip) :=
  ⟨h.2.1 0, h.2.1 1, h.2.1 2, h.2.1 3, h.2.1 4, h.2.1 5, h.2.1 6, h.2.1 7, h.2.1 8⟩

set_option maxRecDepth 100000 in
set_option maxHeartbeats 4000000 in
theorem order_bad {C : ConP} {vg vl : Value} {gs : List Grp} {lots : List Int} {w : World} (hn : C.n ≤ 1000) (hg : PileAt w vg gs) (hl : IntsAt w vl lots) (hf : fitC C gs lots ≠ 0) :
    Calls Tryz.prog 15 #[conC C, vg, vl] w fun e w' => e = .returned (.tuple #[.slice none 0 0, .int .i64 (fitC C gs lots)]) ∧ Below w.heap.size w w' := by
  have FT := fun wq (h : Below w.heap.size w wq) => fit_c (nm := C.nm) (p := C.p) (n := C.n) (c := C.c) (cm := C.cm) (seats := C.seats) (ranks := C.ranks) (digits := C.digits) (ties := C.ties) (over := C.over) (skip := C.skip) hn (hg.keep h) (hl.keep h)
  unfold conC
  unfold fitC at hf ⊢
  obtain ⟨nm, p, n, c, cm, seats, ranks, digits, ties, over, skip⟩ := C
  simp only at FT hf hn ⊢
  obtain ⟨z, hz⟩ : ∃ z, fitS n cm seats digits ties gs lots = z := ⟨_, rfl⟩
  rw [hz] at hf ⊢
  have FT : Hid (∀ wq, Below w.heap.size w wq → Calls Tryz.prog 22 #[.int .i64 1, conV nm p n c cm seats ranks digits ties over skip, vg, vl] wq fun e w' => e = .returned (.int .i64 z) ∧ Below wq.heap.size wq w') := Lib.hid (fun wq h => by have := FT wq h; rw [hz] at this; exact this)
  unfold conV at FT ⊢
  have hbX : Below w.heap.size w (w.alloc (.cells #[nm, .slice p n c, .int .i64 cm, .int .i64 seats, .int .i64 ranks, .int .i64 digits, .int .i64 ties, .int .i64 over, .int .i64 skip] 24)) := (Below.refl _ _).alloc (Nat.le_refl _) _
  have hze : (z == 0) = false := by rw [beq_eq_false_iff_ne]; exact hf
  have hze' : (z != 0) = true := by simpa using hf
  clear hg hl hz
  go_enter Tryz.func15, Tryz.ntmps15
  go_wp2_with (go_at_call 22; ((with_reducible refine (FT.out _ hbX).mono ?_); rintro _ w1 ⟨rfl, hb1⟩))
  go_ret2
  exact ⟨rfl, bel2' hbX hb1⟩

set_option maxRecDepth 100000 in
set_option maxHeartbeats 16000000 in
theorem order_c {C : ConP} {vg vl : Value} {gs : List Grp} {lots : List Int} {w : World} (hg : PileAt w vg gs) (hl : IntsAt w vl lots) (hok : OkC C gs lots) :
    Calls Tryz.prog 15 #[conC C, vg, vl] w fun e w' => ∃ v', e = .returned (.tuple #[v', .int .i64 0]) ∧ IntsAt w' v' (orderS (brkS C.ties lots) gs C.n (List.replicate C.n true) []) ∧ Fresh w.heap.size v' ∧ Below w.heap.size w w' := by
  have hn1 := hok.n1
  have hn7 := hok.n7
  have FT0 := fun wq (h : Below w.heap.size w wq) => fit_c (nm := C.nm) (p := C.p) (n := C.n) (c := C.c) (cm := C.cm) (seats := C.seats) (ranks := C.ranks) (digits := C.digits) (ties := C.ties) (over := C.over) (skip := C.skip) (by omega) (hg.keep h) (hl.keep h)
  have hz : fitS C.n C.cm C.seats C.digits C.ties gs lots = 0 := fit_iff.2 hok
  rw [hz] at FT0
  have HOK := Lib.hid hok
  have HG := Lib.hid hg
  have HL := Lib.hid hl
  have HP7 := Lib.hid hok.seven
  obtain ⟨pg, ng, cg, rfl⟩ : ∃ p n c, vg = .slice p n c := by obtain ⟨p, c, e⟩ := hg.shp; exact ⟨_, _, _, e⟩
  obtain ⟨pl, nl, cl, rfl⟩ : ∃ p n c, vl = .slice p n c := by obtain ⟨p, c, e⟩ := hl.shape; exact ⟨_, _, _, e⟩
  have NC0 := fun wq => @newcount_c C.nm C.p pg pl C.n C.c ng cg nl cl C.cm C.seats C.ranks C.digits C.ties C.over C.skip wq hn1 hn7
  unfold conC
  have FT : Hid (∀ wq, Below w.heap.size w wq → Calls Tryz.prog 22 #[.int .i64 1, conV C.nm C.p C.n C.c C.cm C.seats C.ranks C.digits C.ties C.over C.skip, .slice pg ng cg, .slice pl nl cl] wq fun e w' => e = .returned (.int .i64 0) ∧ Below wq.heap.size wq w') := Lib.hid FT0
  have NC := Lib.hid NC0
  have hbX : Below w.heap.size w (w.alloc (.cells #[C.nm, .slice C.p C.n C.c, .int .i64 C.cm, .int .i64 C.seats, .int .i64 C.ranks, .int .i64 C.digits, .int .i64 C.ties, .int .i64 C.over, .int .i64 C.skip] 24)) := (Below.refl _ _).alloc (Nat.le_refl _) _
  have KX := Blk.new w #[C.nm, .slice C.p C.n C.c, .int .i64 C.cm, .int .i64 C.seats, .int .i64 C.ranks, .int .i64 C.digits, .int .i64 C.ties, .int .i64 C.over, .int .i64 C.skip] 24
  obtain ⟨X, hX⟩ : ∃ X, w.alloc (.cells #[C.nm, .slice C.p C.n C.c, .int .i64 C.cm, .int .i64 C.seats, .int .i64 C.ranks, .int .i64 C.digits, .int .i64 C.ties, .int .i64 C.over, .int .i64 C.skip] 24) = X := ⟨_, rfl⟩
  rw [hX] at hbX KX
  obtain ⟨x0, x1, x2, x3, x4, x5, x6, x7, x8⟩ := nine_cells KX
  have HKX := Lib.hid KX
  unfold conV at FT NC ⊢
  clear hg hl hok KX hz FT0 NC0
  go_enter Tryz.func15, Tryz.ntmps15
  go_wp2_with (first
    | (go_at_call 22; ((with_reducible refine (FT.out _ hbX).mono ?_); rintro _ w1 ⟨rfl, hb1⟩; have hB1 := bel2' hbX hb1; obtain ⟨y0, y1, y2, y3, y4, y5, y6, y7, y8⟩ := nine_cells (HKX.out.keep hb1)))
    | (go_at_call 23; ((with_reducible refine (NC.out _).mono ?_); rintro _ w2 ⟨B, g, rfl, hK2, hO2, hg2, hB2, hB2', hg2', hBg, hb2⟩; have hB2w := bel2' hB1 hb2)))
  obtain ⟨E, hE⟩ : ∃ E, w2.heap.size = E := ⟨_, rfl⟩
  have hEs : w.heap.size ≤ E := by have := hB2w.size; omega
  have hBE : B < E := by omega
  have hgE : g < E := by omega
  have hB0 : w.heap.size ≤ B := by have := hB1.size; omega
  have hg0 : w.heap.size ≤ g := by have := hB1.size; omega
  have hC2 : CntAt w2 B g C (.slice pg ng cg) (.slice pl nl cl) (.slice none 0 0) (List.replicate C.n true) := ⟨hK2, hO2, hBg⟩
  have HE := Lib.hid hE
  have hE2 : E ≤ w2.heap.size := by omega
  clear hK2 hO2 hBg hg2 hB2 hB2' hg2' hE y0 y1 y2 y3 y4 y5 y6 y7 y8 x0 x1 x2 x3 x4 x5 x6 x7 x8
  go_loopw [10] (fun ov wr => ∃ m : Nat, ∃ outs : List Int, ∃ rem ear ve css, wr.ownsRow E 3 1 ov m (outs.map (Value.int .i64)) ∧ CntAt wr B g C (.slice pg ng cg) (.slice pl nl cl) ve rem ∧ Lst2 rowR E (fun b => ov.ownBlock = some b) 47 1 ve wr (ear.map wholesS) css ∧ Below w.heap.size w wr ∧ E ≤ wr.heap.size ∧
      Hid (orderS (brkS C.ties lots) gs C.n (List.replicate C.n true) [] = outs ++ orderS (brkS C.ties lots) gs (C.n - m) rem ear) ∧ Hid ((aliveS rem).length + m = C.n ∧ 1 ≤ (aliveS rem).length ∧ ear.length = m)) (fun ov _ => 8 - lenV ov)
  case atStart => exact ⟨0, [], List.replicate C.n true, [], .slice none 0 0, [], World.ownsRow_nil _ _ _ _, hC2, Lst2.nil _, hB2w, hE2, Lib.hid (by rw [Nat.sub_zero]; rfl), Lib.hid ⟨by rw [alive_all_len]; rfl, by rw [alive_all_len]; exact hn1, rfl⟩⟩
  case round =>
    obtain ⟨m, outs, rem, ear, ve, css, hown, hC, hL2, hbel, hEr, hOR, hIN⟩ := hrel
    obtain ⟨hi1, hi2, hi3⟩ := hIN.out
    have LF := Lib.hid (left_n hC hn7)
    have hrl := hC.len
    obtain ⟨pu, cu, rfl, hmc, hcm⟩ := own_shape hown
    obtain ⟨al, hal⟩ : ∃ n, (aliveS rem).length = n := ⟨_, rfl⟩
    have HAL := Lib.hid hal
    by_cases hl1 : 1 < (aliveS rem).length
    · have hl1z : (1 : Int) < (al : Int) := by omega
      have hne : aliveS rem ≠ [] := fun e => by rw [e] at hl1; simp at hl1
      obtain ⟨j, hj⟩ : ∃ j, C.n - m = j + 1 := ⟨C.n - m - 1, by omega⟩
      have hOR2 := hOR.out
      rw [hj, order_more hl1] at hOR2
      have hex := excl_low (gs := gs) (ear := ear) (by rw [hrl]; exact HOK.out.brk) hne
      have hless := alive_less (low_sub hex)
      obtain ⟨x, hx⟩ : ∃ x, exclS (brkS C.ties lots) gs rem ear = x := ⟨_, rfl⟩
      rw [hx] at hless hOR2
      have HO2 : Hid (orderS (brkS C.ties lots) gs C.n (List.replicate C.n true) [] = (outs ++ [x]) ++ orderS (brkS C.ties lots) gs (C.n - (m + 1)) (rem.set x.toNat false) (ear ++ [votesS gs rem])) := Lib.hid (by
        rw [hOR2, show C.n - (m + 1) = j by omega, List.append_assoc]
        rfl)
      have HIN2 : Hid ((aliveS (rem.set x.toNat false)).length + (m + 1) = C.n ∧ 1 ≤ (aliveS (rem.set x.toNat false)).length ∧ (ear ++ [votesS gs rem]).length = m + 1) := Lib.hid ⟨by omega, by omega, by rw [List.length_append, hi3]; rfl⟩
      have FI : Hid (∀ wq, Below wr.heap.size wr wq → Calls Tryz.prog 24 #[.slice pg ng cg, .slice (some ⟨g, 0, none⟩) C.n C.n] wq fun e w' => ∃ v', e = .returned (.tuple #[v', .int .i64 (restS gs rem)]) ∧ IntsAt w' v' (votesS gs rem) ∧ Fresh wq.heap.size v' ∧ Below wq.heap.size wq w') := Lib.hid (fun wq h => first_c (HG.out.keep (bel2' hbel h)) (hC.keep h).flags HP7.out (by rw [hrl]; exact hn1) (by rw [hrl]; exact hn7))
      have EX : Hid (∀ wq vv, Below wr.heap.size wr wq → IntsAt wq vv (votesS gs rem) → Fresh wr.heap.size vv → Calls Tryz.prog 29 #[.pointer (some ⟨B, 0, none⟩), vv] wq fun e w' => ∃ vt ve' css', e = .returned (.tuple #[.int .i64 x, vt]) ∧ CntAt w' B g C (.slice pg ng cg) (.slice pl nl cl) ve' (rem.set x.toNat false) ∧
          Lst2 rowR E (fun b => (Value.slice pu m cu).ownBlock = some b) 47 1 ve' w' ((ear ++ [votesS gs rem]).map wholesS) css' ∧ w'.ownsRow E 3 1 (.slice pu m cu) m (outs.map (Value.int .i64)) ∧ E ≤ w'.heap.size ∧ Below w.heap.size wr w') := Lib.hid (fun wq vv h hv hf => by
        refine (exclude_c (base := w.heap.size) (hC.keep h) (hL2.keep h) hB0 hg0 hBE hgE (Nat.le_trans hEr h.size) (fun b e => Nat.lt_of_lt_of_le (hown.lt b e).2 h.size) (HL.out.keep (bel2' hbel h)) hv (fun b e => by have := hf b e; omega) (fun y hy => by have := votes_rng (n := C.n) HOK.out.pile y hy; omega) hn7 (by omega) hne HOK.out.brk).mono ?_
        rintro e w' ⟨vt, ve', css', rfl, _, q1, q2, q3, ⟨q4, q5⟩, q6⟩
        rw [hx] at q1 ⊢
        refine ⟨vt, ve', css', rfl, q1, by rw [List.map_append]; exact q2, ?_, by have := h.size; omega, (h.mono hbel.size).trans q6⟩
        refine ownsRow_block (ownsRow_below hown h) fun b e => q5 b (Nat.lt_of_lt_of_le (hown.lt b e).2 h.size) (by have := (hown.lt b e).1; omega) (by have := (hown.lt b e).1; omega) (fun e2 => hL2.apart b e2 e))
      have hbwr := hbel
      have hk11 := hC.cells.2.2.1
      clear hex hless hOR2 hL2 hC hown hrl hi1 hi2 hi3
      go_wp2_with (first
        | (go_at_call 26; ((with_reducible refine LF.out.mono ?_); rintro _ w3 ⟨v3, rfl, h3, hf3, hb3⟩; obtain ⟨p3, c3, rfl⟩ := h3.shape; rw [HAL.out]; clear h3 hf3; have k11 := cell_keep hb3 hk11))
        | (go_at_call 24; ((with_reducible refine (FI.out _ hb3).mono ?_); rintro _ w4 ⟨v4, rfl, h4, hf4, hb4⟩; have hb34 := bel2' hb3 hb4; have hf4 := Fresh.mono hf4 hb3.size))
        | (go_at_call 29; ((with_reducible refine (EX.out _ _ hb34 h4 hf4).mono ?_); rintro _ w5 ⟨vt, ve', css', rfl, hC5, hL5, hown5, hE5, hb5⟩))
        | (at_builtin; go_must (refine append_fresh erI rfl rfl hown5 rfl rfl rfl (by simp [Value.oneCell']) (by omega) (by omega) hE5 ?_); intro v6 w6 hown6 hg6 hb6 _ hG6))
      go_roundw
      case rel =>
        have hC6 := hC5.off hg6.size (hg6.block B (by omega) (fun e => by have := (hown5.lt B e.symm).1; omega)) (hg6.block g (by omega) (fun e => by have := (hown5.lt g e.symm).1; omega))
        have hL6 := hL5.step (o' := fun b => v6.ownBlock = some b) hg6.size (fun b _ hlt hne => hg6.block b hlt (fun e => hne e.symm)) (fun b hlt hn => Grew.not hG6 hlt hn)
        have hB6 := (hbel.trans hb5).trans (hb6.mono hEs)
        refine ⟨m + 1, outs ++ [x], _, _, _, _, ?_, hC6, hL6, hB6, Nat.le_trans hE5 hg6.size, HO2, HIN2⟩
        rw [List.map_append]
        exact hown6
      case measure =>
        obtain ⟨p6, c6, rfl, _, _⟩ := own_shape hown6
        simp [lenV] <;> omega
    · have hl1z : ¬ (1 : Int) < (al : Int) := by omega
      obtain ⟨j, hj⟩ : ∃ j, C.n - m = j + 1 := ⟨C.n - m - 1, by omega⟩
      have hOR2 := hOR.out
      rw [hj, order_done hl1] at hOR2
      have HO2 := Lib.hid hOR2
      have HOW := Lib.hid hown
      have LA := Lib.hid (fun wq (h : Below wr.heap.size wr wq) => left_n (hC.keep h) hn7)
      have ham : al ≤ 7 := by omega
      clear hOR2 hown hC hL2 hrl hi1 hi2 hi3
      go_wp2_with (first
        | (go_at_call 26; ((with_reducible refine LF.out.mono ?_); rintro _ w3 ⟨v3, rfl, h3, hf3, hb3⟩; obtain ⟨p3, c3, rfl⟩ := h3.shape; rw [HAL.out]; clear h3 hf3))
        | (go_at_call 26; ((with_reducible refine (LA.out _ hb3).mono ?_); rintro _ w4 ⟨v4, rfl, h4, hf4, hb4⟩; have hb34 := bel2' hb3 hb4; have hE4 := Nat.le_trans hEr hb34.size))
        | (at_builtin; go_must (refine append_read erI (by rfl) (by rfl) (ownsRow_below HOW.out hb34) (by rfl) h4 (by rfl) (ints_one _) (by rw [List.length_map, HAL.out]; omega) (by rw [List.length_map, HAL.out]; omega) hE4 ?_); intro v6 w6 hown6 hb6))
      go_ret2
      have hI6 : IntsAt w6 v6 (outs ++ aliveS rem) := RowAt.owned (by rw [List.map_append]; exact hown6)
      exact ⟨_, rfl, by rw [HO2.out]; exact hI6, (Fresh.owned hown6).mono hEs, (hbel.trans (hb34.mono (by omega))).trans (hb6.mono hEs)⟩

end Go.Proofs.YtbnhgmikegdppaaGreat

/- electionmake: Pile, Names, Contest, RenamePile, Short; All; few. -/
namespace Go.Proofs.Nums

def pileB (n : Nat) (L : List (List Int)) : List Grp := makeS (L.map (ballotS n))
theorem ballot_bal {n : Nat} (h1 : 1 ≤ n) (l : List Int) : BalP n (ballotS n l) := by
  have h := ballot_ok (n := (n : Int)) (by omega) l
  exact ⟨h.2.1, h.1⟩
theorem pile_pile {n : Nat} (h1 : 1 ≤ n) {L : List (List Int)} (hl : L.length ≤ 40) : PileP n (pileB n L) := by
  refine make_pile (fun b hb => ?_) (by rw [List.length_map]; omega)
  obtain ⟨l, _, rfl⟩ := List.mem_map.1 hb
  exact ballot_bal h1 l
def fewB (L : List (List Int)) : Bool := (L.all fun r => decide (r.length ≤ 12)) && decide (L.length ≤ 40)
theorem few_true {L : List (List Int)} : fewB L = true ↔ (∀ r ∈ L, r.length ≤ 12) ∧ L.length ≤ 40 := by
  unfold fewB
  rw [Bool.and_eq_true, List.all_eq_true, decide_eq_true_iff]
  constructor
  · exact fun h => ⟨fun r hr => of_decide_eq_true (h.1 r hr), h.2⟩
  · exact fun h => ⟨fun r hr => decide_eq_true (h.1 r hr), h.2⟩
theorem few_at {L : List (List Int)} {k : Nat} {r : List Int} (h : k < L.length) (hr : L.getD k [] = r) (hl : 12 < r.length) : fewB L = false := by
  cases e : fewB L with
  | false => rfl
  | true =>
    have hm : r ∈ L := by
      rw [← hr, List.getD_eq_getElem?_getD, List.getElem?_eq_getElem h]
      exact List.getElem_mem _
    have := (few_true.1 e).1 r hm
    omega
def shortB (gs : List Grp) : Bool := (gs.all fun g => decide (g.p.length ≤ 12)) && decide (gs.length ≤ 60)
theorem short_at {gs : List Grp} {k : Nat} {g : Grp} (h : k < gs.length) (hg : gs.getD k g0 = g) (hl : 12 < g.p.length) : shortB gs = false := by
  have hm := mem_getG h hg
  have : (gs.all fun g => decide (g.p.length ≤ 12)) = false := by
    rw [List.all_eq_false]
    exact ⟨g, hm, by simp; omega⟩
  unfold shortB
  rw [this]; rfl
theorem all_take_l {L : List (List Int)} {k : Nat} (h : ∀ r ∈ L.take k, r.length ≤ 12) (hk : L.length ≤ k) : fewB L = decide (L.length ≤ 40) := by
  rw [List.take_of_length_le hk] at h
  unfold fewB
  rw [List.all_eq_true.2 fun r hr => decide_eq_true (h r hr), Bool.true_and]
theorem all_take_g {gs : List Grp} {k : Nat} (h : ∀ g ∈ gs.take k, g.p.length ≤ 12) (hk : gs.length ≤ k) : shortB gs = decide (gs.length ≤ 60) := by
  rw [List.take_of_length_le hk] at h
  unfold shortB
  rw [List.all_eq_true.2 fun r hr => decide_eq_true (h r hr), Bool.true_and]
def renPileS (r : List Int → List Int) (gs : List Grp) : List Grp := gs.foldl (fun o g => addS o (r g.p) g.n) []
theorem renPile_snoc (r : List Int → List Int) (gs : List Grp) (g : Grp) : renPileS r (gs ++ [g]) = addS (renPileS r gs) (r g.p) g.n := by
  unfold renPileS
  rw [List.foldl_append]
  rfl
theorem renPile_fold (r : List Int → List Int) (f : List Int → Bool) : ∀ (l : List Grp) (hs : List Grp), sumF f (l.foldl (fun o g => addS o (r g.p) g.n) hs) = sumF f hs + sumF (fun p => f (r p)) l
  | [], hs => by simp [sumF_nil]
  | g :: l, hs => by
    rw [List.foldl_cons, renPile_fold r f l, sumF_add, sumF_cons]
    omega
theorem renPile_sum (r : List Int → List Int) (gs : List Grp) (f : List Int → Bool) : sumF f (renPileS r gs) = sumF (fun p => f (r p)) gs := by
  unfold renPileS
  rw [renPile_fold, sumF_nil, Int.zero_add]
theorem renPile_tot (r : List Int → List Int) (gs : List Grp) : totS (renPileS r gs) = totS gs := renPile_sum r gs _
theorem renFold_pos {r : List Int → List Int} : ∀ {l : List Grp} {hs : List Grp}, PosG l → PosG hs → PosG (l.foldl (fun o g => addS o (r g.p) g.n) hs)
  | [], _, _, h => h
  | g :: l, _, hl, h => renFold_pos (l := l) hl.tail (h.add _ (hl g (List.mem_cons_self ..)))
theorem renPile_pos {r : List Int → List Int} {gs : List Grp} (h : PosG gs) : PosG (renPileS r gs) := renFold_pos h fun _ hg => by simp at hg
theorem renFold_srt {r : List Int → List Int} : ∀ {l : List Grp} {hs : List Grp}, srtG hs → srtG (l.foldl (fun o g => addS o (r g.p) g.n) hs)
  | [], _, h => h
  | _ :: l, _, h => renFold_srt (l := l) (add_srt h)
theorem renFold_mem {r : List Int → List Int} {P : List Int → Prop} : ∀ {l : List Grp} {hs : List Grp}, (∀ g ∈ l, P (r g.p)) → (∀ g ∈ hs, P g.p) → ∀ g ∈ l.foldl (fun o g => addS o (r g.p) g.n) hs, P g.p
  | [], _, _, h => h
  | g :: l, _, hl, h => renFold_mem (l := l) (fun x hx => hl x (List.mem_cons_of_mem _ hx)) (mem_add h (hl g (List.mem_cons_self ..)))
theorem renPile_pile {r : List Int → List Int} {n : Int} {gs : List Grp} (h : PileP n gs) (hr : ∀ g ∈ gs, BalP n (r g.p)) : PileP n (renPileS r gs) :=
  ⟨renFold_mem (P := BalP n) hr fun _ hg => by simp at hg, renPile_pos h.pos, by rw [renPile_tot]; exact h.tot, renFold_srt List.Pairwise.nil⟩

end Go.Proofs.Nums
namespace Go.Proofs.YtbnhgmikegdppaaGreat
open Go.RowKit Go.Proofs.Kit Go.Proofs.Nums

set_option maxHeartbeats 2000000 in
theorem mpile_c {vb : Value} {L : List (List Int)} {n : Nat} {w : World} (hv : GridAt w vb L) (h1 : 1 ≤ n) (h7 : n ≤ 7) (hf : ∀ r ∈ L, r.length ≤ 12) (hl : L.length ≤ 40) :
    Calls Tryz.prog 10 #[.int .i64 n, vb, .int .i64 40] w fun e w' => ∃ v', e = .returned v' ∧ PileAt w' v' (pileB n L) ∧ Below w.heap.size w w' := by
  have BA := Lib.hid (mballots_c hv h1 h7 hf hl)
  have MK : Hid (∀ wq v, GridAt wq v (L.map (ballotS n)) → Calls Tryz.prog 18 #[.int .i64 n, v] wq fun e w' => ∃ v', e = .returned (.tuple #[v', .int .i64 0]) ∧ PileAt w' v' (pileB n L) ∧ Below wq.heap.size wq w') := Lib.hid (fun wq v h => rmake_c h h1 h7 (fun b hb => by
    obtain ⟨l, _, rfl⟩ := List.mem_map.1 hb
    exact ballot_bal h1 l) (by rw [List.length_map]; omega))
  clear hf
  go_enter Tryz.func10, Tryz.ntmps10
  go_wp2_with (first
    | (go_at_call 21; ((with_reducible refine BA.out.mono ?_); rintro _ w1 ⟨v1, rfl, ⟨css, h1'⟩, hb1⟩; have hg1 : GridAt w1 v1 (L.map (ballotS n)) := h1'.slice))
    | (go_at_call 18; ((with_reducible refine (MK.out _ _ hg1).mono ?_); rintro _ w2 ⟨v2, rfl, h2, hb2⟩; have hB2 := bel2' hb1 hb2)))
  go_ret
  exact ⟨_, rfl, h2, hB2⟩

set_option maxHeartbeats 2000000 in
theorem few_c {v : Value} {L : List (List Int)} {w : World} (hv : GridAt w v L) :
    Calls Tryz.prog 6 #[v] w fun e w' => e = .returned (.bool (fewB L)) ∧ w = w' := by
  have H := Lib.hid hv
  have hlm := SliceOf.len hv
  obtain ⟨p, c, rfl⟩ := hv.shp
  obtain ⟨n, hn⟩ : ∃ n, L.length = n := ⟨_, rfl⟩
  have HN := Lib.hid hn
  rw [hn] at hlm H ⊢
  clear hv hn
  go_enter Tryz.func6, Tryz.ntmps6
  go_wp2_with fail
  go_loop [3] (fun i => ∃ k : Nat, k ≤ n ∧ i = .int .i64 k ∧ Hid (∀ r ∈ L.take k, r.length ≤ 12)) (fun i => n - (intOf i).toNat)
  case atStart => exact ⟨0, by omega, rfl, Lib.hid (by simp)⟩
  case round =>
    obtain ⟨k, hk, rfl, hP⟩ := hrel
    by_cases hlt : k < n
    · have hltz : (k : Int) < (n : Int) := by omega
      obtain ⟨r, hr⟩ : ∃ r, L.getD k [] = r := ⟨_, rfl⟩
      obtain ⟨b, off, u, hp0, hc1, hc2, hcell, hrow⟩ := H.out.cellAt (by rw [HN.out]; exact hlt) hr
      subst hp0
      obtain ⟨q, d, rfl⟩ := hrow.shape
      obtain ⟨m, hm⟩ : ∃ m, r.length = m := ⟨_, rfl⟩
      have hsn := take_snoc_l (by rw [HN.out]; exact hlt) hr
      rw [hm] at hcell
      by_cases h12 : 12 < m
      · have d1 : decide (12 < (m : Int)) = true := decide_eq_true (by omega)
        have h12z : (12 : Int) < (m : Int) := by omega
        have HX : Hid (fewB L = false) := Lib.hid (few_at (by rw [HN.out]; exact hlt) hr (by omega))
        clear hr hrow hm hsn
        go_wp2_with fail
        go_ret
        exact ⟨by rw [HX.out]; rfl, rfl⟩
      · have d1 : decide (12 < (m : Int)) = false := decide_eq_false (by omega)
        have h12z : ¬ (12 : Int) < (m : Int) := by omega
        have HX : Hid (∀ r ∈ L.take (k + 1), r.length ≤ 12) := Lib.hid (fun x hx => by
          rw [hsn, List.mem_append, List.mem_singleton] at hx
          rcases hx with hx | rfl
          · exact hP.out x hx
          · omega)
        clear hr hrow hm hsn
        go_wp2_with fail
        go_round
        case rel => exact ⟨k + 1, by omega, by go_num, HX⟩
        case measure => simp [intOf] <;> omega
    · obtain rfl : n = k := by omega
      have HX : Hid (fewB L = decide ((n : Int) ≤ 40)) := Lib.hid (by
        rw [all_take_l hP.out (by rw [HN.out]; exact Nat.le_refl _), HN.out, decide_eq_decide]
        omega)
      go_wp2_with fail
      go_ret
      exact ⟨by rw [HX.out]; rfl, rfl⟩

set_option maxHeartbeats 2000000 in
theorem short_gc {v : Value} {gs : List Grp} {w : World} (hv : PileAt w v gs) :
    Calls Tryz.prog 5 #[v] w fun e w' => e = .returned (.bool (shortB gs)) ∧ w = w' := by
  have H := Lib.hid hv
  have hlm := SliceOf.len hv
  obtain ⟨p, c, rfl⟩ := hv.shp
  obtain ⟨n, hn⟩ : ∃ n, gs.length = n := ⟨_, rfl⟩
  have HN := Lib.hid hn
  rw [hn] at hlm H ⊢
  clear hv hn
  go_enter Tryz.func5, Tryz.ntmps5
  go_wp2_with fail
  go_loop [3] (fun i => ∃ k : Nat, k ≤ n ∧ i = .int .i64 k ∧ Hid (∀ g ∈ gs.take k, g.p.length ≤ 12)) (fun i => n - (intOf i).toNat)
  case atStart => exact ⟨0, by omega, rfl, Lib.hid (by simp)⟩
  case round =>
    obtain ⟨k, hk, rfl, hP⟩ := hrel
    by_cases hlt : k < n
    · have hltz : (k : Int) < (n : Int) := by omega
      obtain ⟨g, hg⟩ : ∃ r, gs.getD k g0 = r := ⟨_, rfl⟩
      obtain ⟨b, off, q, m, d, hp0, hc1, hc2, hcell, _, hrow, hm⟩ := H.out.cellAt (by rw [HN.out]; exact hlt) hg
      subst hp0
      have hsn := take_snoc_g (l := gs) (k := k) (by rw [HN.out]; exact hlt)
      rw [hg] at hsn
      by_cases h12 : 12 < m
      · have h12z : (12 : Int) < (m : Int) := by omega
        have HX : Hid (shortB gs = false) := Lib.hid (short_at (by rw [HN.out]; exact hlt) hg (by omega))
        clear hg hrow hm hsn
        go_wp2_with fail
        go_ret
        exact ⟨by rw [HX.out]; rfl, rfl⟩
      · have h12z : ¬ (12 : Int) < (m : Int) := by omega
        have HX : Hid (∀ r ∈ gs.take (k + 1), r.p.length ≤ 12) := Lib.hid (fun x hx => by
          rw [hsn, List.mem_append, List.mem_singleton] at hx
          rcases hx with hx | rfl
          · exact hP.out x hx
          · omega)
        clear hg hrow hm hsn
        go_wp2_with fail
        go_round
        case rel => exact ⟨k + 1, by omega, by go_num, HX⟩
        case measure => simp [intOf] <;> omega
    · obtain rfl : n = k := by omega
      have HX : Hid (shortB gs = decide ((n : Int) ≤ 60)) := Lib.hid (by
        rw [all_take_g hP.out (by rw [HN.out]; exact Nat.le_refl _), HN.out, decide_eq_decide]
        omega)
      go_wp2_with fail
      go_ret
      exact ⟨by rw [HX.out]; rfl, rfl⟩

set_option maxHeartbeats 2000000 in
theorem rall_c (n : Nat) (h7 : n ≤ 7) (w : World) :
    Calls Tryz.prog 31 #[.int .i64 n] w fun e w' => ∃ g, e = .returned (.slice (some ⟨g, 0, none⟩) n n) ∧ OwnBool w' g g n (List.replicate n true) ∧ w.heap.size ≤ g ∧ Below w.heap.size w w' := by
  go_enter Tryz.func31, Tryz.ntmps31
  go_wp2_with (at_make; go_must (refine make_any erB rfl rfl rfl rfl (by omega) (by omega) (by omega) ?_); intro w4 hown4 hb4; rw [show ((n : Int)).toNat = n by omega] at hown4 ⊢; have own4 := OwnBool.made hown4)
  obtain ⟨G, hG⟩ : ∃ G, w.heap.size = G := ⟨_, rfl⟩
  have HG := Lib.hid hG
  rw [hG] at own4 hb4 ⊢
  have own4 := Lib.hid own4
  clear hown4 hG
  go_loopw [4] (fun iv wq => ∃ k : Nat, k ≤ n ∧ iv = .int .i64 k ∧ OwnBool wq G G n (setTo n k) ∧ Below G w wq) (fun iv _ => n - (intOf iv).toNat)
  case atStart => exact ⟨0, by omega, rfl, by rw [setTo_none]; exact own4.out, hb4⟩
  case round =>
    obtain ⟨k, hk, rfl, hO4, hbel4⟩ := hrel
    by_cases hlt : k < n
    · have hltz : (k : Int) < (n : Int) := by omega
      have hc4 := hO4.cell hlt
      have hf4 := hO4.free k
      have hp4 := hO4.put k true
      rw [setTo_step hlt] at hp4
      have hp4 := Lib.hid hp4
      go_wp2_with fail
      go_roundw
      case rel => exact ⟨k + 1, by omega, by go_num, hp4.out.1, hbel4.trans hp4.out.2⟩
      case measure => simp [intOf] <;> omega
    · obtain rfl : n = k := by omega
      rw [setTo_all] at hO4
      have HO := Lib.hid hO4
      clear hO4
      go_wp2_with fail
      go_ret
      exact ⟨G, rfl, HO.out, by rw [HG.out]; exact Nat.le_refl _, by rw [HG.out]; exact hbel4⟩

end Go.Proofs.YtbnhgmikegdppaaGreat
