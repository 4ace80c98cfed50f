/- Both meters, any overstatement; the state of the loop of MartingaleSteps. -/
import Derived.Test.YtlhkjkhbgebgiaaS2
import Derived.Test.YtlhkjkhbgebgiaaS5
import Derived.Test.YtlhkjkhbgebgiaaS7
import Derived.Test.YtlhkjkhbgebgiaaS8
namespace Go.Proofs.Nums

/-- What Step answers, and the meter after it. -/
def Mt.code (s : Mt) (o : Int) : Int := if s.seen = s.n then 11 else if -s.u ≤ o ∧ o ≤ s.u then 0 else 4
def Mt.after (s : Mt) (o : Int) : Mt := if s.seen = s.n then s else if -s.u ≤ o ∧ o ≤ s.u then s.next o else s
theorem Mt.after_ok {s : Mt} (h : s.Ok) (o : Int) : (s.after o).Ok ∧ (s.after o).n = s.n ∧ (s.after o).u = s.u := by
  unfold Mt.after
  have := h.s2
  split
  · exact ⟨h, rfl, rfl⟩
  · split
    · rename_i h1 h2
      exact ⟨Mt.next_ok h h2.1 h2.2 (by omega), rfl, rfl⟩
    · exact ⟨h, rfl, rfl⟩

end Go.Proofs.Nums
namespace Go.Proofs.Ytlhkjkhbgebgiaa
open Go.RowKit Go.Proofs.Kit Go.Proofs.Nums

theorem step_all {H : Nat} {s : Mt} (o : Int) {w : World} (hm : MeterAt w H s) (hs : s.Ok) :
    Calls Try.prog 12 #[.pointer (some ⟨H, 0, none⟩), .int .i64 o] w fun e w' => e = .returned (.int .i64 (s.code o)) ∧ MeterAt w' H (s.after o) ∧ (∀ b cs, b ≠ H → Blk b cs w → Blk b cs w') ∧ Below H w w' := by
  have h2 := hs.s2
  have hlt := hm.1
  unfold Mt.code Mt.after
  by_cases hc : s.seen = s.n
  · rw [if_pos hc, if_pos hc]
    refine (step_closed hm hc).mono ?_
    rintro e w' ⟨rfl, hb⟩
    exact ⟨rfl, hm.keep hb, fun b cs _ h => h.keep hb, hb.mono (Nat.le_of_lt hlt)⟩
  · rw [if_neg hc, if_neg hc]
    by_cases ho : -s.u ≤ o ∧ o ≤ s.u
    · rw [if_pos ho, if_pos ho]
      refine (step_c hm hs ho.1 ho.2 (by omega)).mono ?_
      rintro e w' ⟨rfl, hm', hb⟩
      exact ⟨rfl, hm', fun b cs hne h => h.off (hb.heap b hne) hb.below.size, hb.below⟩
    · rw [if_neg ho, if_neg ho]
      refine (step_range hm hs.u1 hs.u2 (by omega) ho).mono ?_
      rintro e w' ⟨rfl, hb⟩
      exact ⟨rfl, hm.keep hb, fun b cs _ h => h.keep hb, hb.mono (Nat.le_of_lt hlt)⟩

theorem rstep_all {H : Nat} {s : Mt} (o : Int) {w : World} (hm : RMeterAt w H s) (hs : s.Ok) :
    Calls Try.prog 22 #[.pointer (some ⟨H, 0, none⟩), .int .i64 o] w fun e w' => e = .returned (.int .i64 (s.code o)) ∧ RMeterAt w' H (s.after o) ∧ (∀ b cs, b ≠ H → Blk b cs w → Blk b cs w') ∧ Below H w w' := by
  have h2 := hs.s2
  unfold Mt.code Mt.after
  by_cases hc : s.seen = s.n
  · rw [if_pos hc, if_pos hc]
    refine (rstep_closed hm hc).mono ?_
    rintro e w' ⟨rfl, rfl⟩
    exact ⟨rfl, hm, fun b cs _ h => h, Below.refl _ _⟩
  · rw [if_neg hc, if_neg hc]
    by_cases ho : -s.u ≤ o ∧ o ≤ s.u
    · rw [if_pos ho, if_pos ho]
      refine (rstep_c hm hs ho.1 ho.2 (by omega)).mono ?_
      rintro e w' ⟨rfl, hm', hb⟩
      exact ⟨rfl, hm', fun b cs hne h => h.off (hb.heap b hne) hb.below.size, hb.below⟩
    · rw [if_neg ho, if_neg ho]
      refine (rstep_range hm hs.u1 hs.u2 (by omega) ho).mono ?_
      rintro e w' ⟨rfl, rfl⟩
      exact ⟨rfl, hm, fun b cs _ h => h, Below.refl _ _⟩

theorem conf_all {H : Nat} {s : Mt} {v : Value} {neg : Bool} {a b : List Nat} {w : World} (hm : MeterAt w H s) (hs : s.Ok) (hr : RatL w v neg a b) (ha : a.length ≤ 4) (hb : b.length ≤ 4) :
    Calls Try.prog 14 #[.pointer (some ⟨H, 0, none⟩), v] w fun e w' => e = .returned (.bool (gokR neg a b && Mt.conf s ⟨neg, val a, val b⟩)) ∧ Below w.heap.size w w' := by
  by_cases hg : gokR neg a b = true
  · obtain ⟨g1, g2, g3, g4, g5, g6⟩ := gok_facts hg
    rw [hg, Bool.true_and]
    obtain ⟨vn, vd, rfl, gn, gd⟩ := hr
    have ln : val a < 4294967296 ^ 4 := (Num.of gn ha).lt
    have ld : val b < 4294967296 ^ 4 := (Num.of gd hb).lt
    rw [g2] at gn
    rw [g3] at gd
    have hN : RatN w (.agg #[.bool neg, vn, vd]) ⟨neg, val a, val b⟩ 4 := ⟨_, _, rfl, ⟨gn, ln⟩, ⟨gd, ld⟩⟩
    exact conf4_c hm hs hN g1 g4 g5 g6
  · rw [Bool.not_eq_true] at hg
    rw [hg, Bool.false_and]
    exact conf4_bad hr ha hb hg

theorem rconf_all {R : Nat} {s : Mt} {v : Value} {neg : Bool} {a b : List Nat} {w : World} (hm : RMeterAt w R s) (hs : s.Ok) (hr : RatL w v neg a b) (ha : a.length ≤ 4) (hb : b.length ≤ 4) :
    Calls Try.prog 25 #[.pointer (some ⟨R, 0, none⟩), v] w fun e w' => e = .returned (.bool (gokR neg a b && Mt.conf s ⟨neg, val a, val b⟩)) ∧ Below w.heap.size w w' := by
  rw [← risk_gok]
  exact rconf_c hm hs hr ha hb

/-- The state of the loop: from the world w3 on, in which the tally and the risk limit lie. -/
structure Stp (w3 : World) (T K H R : Nat) (st : Mt) (n1 m1 u1 : Int) (ng : Bool) (vn vd v : Value) (ra rb : List Nat) (l : List Int) (w : World) : Prop where
  m : MeterAt w H st
  r : RMeterAt w R st
  ok : st.Ok
  n : st.n = n1
  u : st.u = u1
  below : Below w3.heap.size w3 w
  hH : w3.heap.size ≤ H
  hR : w3.heap.size ≤ R
  ne : H ≠ R
  t3 : Blk T #[.int .i64 n1, .int .i64 m1, .int .i64 u1] w3
  k3 : Blk K #[.bool ng, vn, vd] w3
  rl3 : RatL w3 (.agg #[.bool ng, vn, vd]) ng ra rb
  o3 : IntsAt w3 v l

section
variable {w3 : World} {T K H R : Nat} {st : Mt} {n1 m1 u1 : Int} {ng : Bool} {vn vd v : Value} {ra rb : List Nat} {l : List Int} {w w' : World}
theorem Stp.t (h : Stp w3 T K H R st n1 m1 u1 ng vn vd v ra rb l w) : Blk T #[.int .i64 n1, .int .i64 m1, .int .i64 u1] w := h.t3.keep h.below
theorem Stp.k (h : Stp w3 T K H R st n1 m1 u1 ng vn vd v ra rb l w) : Blk K #[.bool ng, vn, vd] w := h.k3.keep h.below
theorem Stp.rl (h : Stp w3 T K H R st n1 m1 u1 ng vn vd v ra rb l w) : RatL w (.agg #[.bool ng, vn, vd]) ng ra rb := h.rl3.keep h.below
theorem Stp.over (h : Stp w3 T K H R st n1 m1 u1 ng vn vd v ra rb l w) : IntsAt w v l := h.o3.keep h.below
theorem Stp.keep (h : Stp w3 T K H R st n1 m1 u1 ng vn vd v ra rb l w) (hb : Below w.heap.size w w') : Stp w3 T K H R st n1 m1 u1 ng vn vd v ra rb l w' :=
  ⟨h.m.keep hb, h.r.keep hb, h.ok, h.n, h.u, bel2' h.below hb, h.hH, h.hR, h.ne, h.t3, h.k3, h.rl3, h.o3⟩
/-- After both steps. -/
theorem Stp.both {w1 w2 : World} {o : Int} (h : Stp w3 T K H R st n1 m1 u1 ng vn vd v ra rb l w) (hm : MeterAt w1 H (st.after o)) (hb : Below H w w1) (hr : RMeterAt w2 R (st.after o)) (hk2 : ∀ b cs, b ≠ R → Blk b cs w1 → Blk b cs w2) (hb2 : Below R w1 w2) : Stp w3 T K H R (st.after o) n1 m1 u1 ng vn vd v ra rb l w2 :=
  ⟨hk2 _ _ h.ne hm, hr, (Mt.after_ok h.ok o).1, (Mt.after_ok h.ok o).2.1.trans h.n, (Mt.after_ok h.ok o).2.2.trans h.u, (h.below.trans (hb.mono h.hH)).trans (hb2.mono h.hR), h.hH, h.hR, h.ne, h.t3, h.k3, h.rl3, h.o3⟩
/-- The cells that the comparison reads. -/
theorem Stp.cells (h : Stp w3 T K H R st n1 m1 u1 ng vn vd v ra rb l w) :
    w.cell? ⟨T, 0, none⟩ = some (.int .i64 n1) ∧ w.cell? ⟨K, 0, none⟩ = some (.bool ng) ∧ w.cell? ⟨K, 1, none⟩ = some vn ∧ w.cell? ⟨K, 2, none⟩ = some vd ∧
    w.cell? ⟨R, 3, none⟩ = some (.int .i64 (st.n - st.seen)) ∧ w.cell? ⟨R, 5, none⟩ = some (.int .i64 st.val) ∧ w.cell? ⟨R, 6, none⟩ = some (.int .i64 st.best) ∧ w.cell? ⟨R, 7, none⟩ = some (.bool st.pr) :=
  ⟨h.t.2.1 0, h.k.2.1 0, h.k.2.1 1, h.k.2.1 2, h.r.2.1 3, h.r.2.1 5, h.r.2.1 6, h.r.2.1 7⟩
end

end Go.Proofs.Ytlhkjkhbgebgiaa
