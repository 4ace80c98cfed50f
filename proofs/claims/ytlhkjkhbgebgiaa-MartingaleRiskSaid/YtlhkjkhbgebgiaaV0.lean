/- The meter, plain: no program in sight. -/
import Derived.Test.YtlhkjkhbgebgiaaMR
namespace Go.Proofs.Nums

/-- A meter: the tally, the items seen, the room, the value, the best value, and whether it is proven. -/
structure Mt where
  n : Int
  mg : Int
  u : Int
  seen : Int
  room : Int
  val : Int
  best : Int
  pr : Bool

/-- The value after an overstatement. -/
def Mt.newVal (s : Mt) (o : Int) : Int := if s.pr = true ∨ s.room = 0 then s.val else min 17592186044416 (s.val * (s.room + 9 * (s.u - o) * (s.n - s.seen)) / (10 * s.room))
def Mt.newBest (s : Mt) (o : Int) : Int := if s.pr = true ∨ s.room = 0 then s.best else max s.best (s.newVal o)
/-- The meter after an overstatement. -/
def Mt.next (s : Mt) (o : Int) : Mt := ⟨s.n, s.mg, s.u, s.seen + 1, s.room - (s.u - o), s.newVal o, s.newBest o, decide (s.room - (s.u - o) < 0)⟩
/-- A fresh one. -/
def Mt.new (n mg u : Int) : Mt := ⟨n, mg, u, 0, n * u - mg, 4294967296, 4294967296, false⟩

structure Mt.Ok (s : Mt) : Prop where
  n1 : 1 ≤ s.n
  n2 : s.n ≤ 1024
  u1 : 2 ≤ s.u
  u2 : s.u ≤ 6
  s1 : 0 ≤ s.seen
  s2 : s.seen ≤ s.n
  r1 : s.room ≤ 6144
  r2 : -(12 * s.seen) ≤ s.room
  v1 : 0 ≤ s.val
  v2 : s.val ≤ 17592186044416
  b1 : 4294967296 ≤ s.best
  b2 : s.best ≤ 17592186044416
  p : s.pr = decide (s.room < 0)

theorem Mt.new_ok {n mg u : Int} (h1 : 1 ≤ n) (h2 : n ≤ 1024) (h3 : 2 ≤ u) (h4 : u ≤ 6) (h5 : 1 ≤ mg) (h6 : mg ≤ n * u) : (Mt.new n mg u).Ok := by
  have hb : n * u ≤ 1024 * 6 := Int.mul_le_mul h2 h4 (by omega) (by omega)
  exact ⟨h1, h2, h3, h4, by show (0 : Int) ≤ 0; omega, by show (0 : Int) ≤ n; omega, by show n * u - mg ≤ 6144; omega, by show -(12 * (0 : Int)) ≤ n * u - mg; omega, by show (0 : Int) ≤ 4294967296; omega, by show (4294967296 : Int) ≤ 17592186044416; omega, by show (4294967296 : Int) ≤ 4294967296; omega, by show (4294967296 : Int) ≤ 17592186044416; omega, (decide_eq_false (by show ¬ n * u - mg < 0; omega)).symm⟩

theorem Mt.mid {s : Mt} (h : s.Ok) {o : Int} (h1 : -s.u ≤ o) (h2 : o ≤ s.u) (hr : 0 < s.room) :
    0 ≤ 9 * (s.u - o) * (s.n - s.seen) ∧ 9 * (s.u - o) * (s.n - s.seen) ≤ 110592 ∧ 0 ≤ s.val * (s.room + 9 * (s.u - o) * (s.n - s.seen)) ∧ s.val * (s.room + 9 * (s.u - o) * (s.n - s.seen)) ≤ 2053681483563859968 := by
  obtain ⟨a1, a2, a3, a4, a5, a6, a7, a8, a9, a10, a11, a12, a13⟩ := h
  have g1 : 0 ≤ 9 * (s.u - o) * (s.n - s.seen) := Int.mul_nonneg (by omega) (by omega)
  have g2 : 9 * (s.u - o) * (s.n - s.seen) ≤ 108 * 1024 := Int.mul_le_mul (by omega) (by omega) (by omega) (by omega)
  have g3 : 0 ≤ s.val * (s.room + 9 * (s.u - o) * (s.n - s.seen)) := Int.mul_nonneg a9 (by omega)
  have g4 : s.val * (s.room + 9 * (s.u - o) * (s.n - s.seen)) ≤ 17592186044416 * 116738 := Int.mul_le_mul a10 (by omega) (by omega) (by omega)
  exact ⟨g1, by omega, g3, by omega⟩

theorem Mt.next_ok {s : Mt} (h : s.Ok) {o : Int} (h1 : -s.u ≤ o) (h2 : o ≤ s.u) (h3 : s.seen < s.n) : (s.next o).Ok := by
  have hmid := fun hr => Mt.mid h h1 h2 hr
  obtain ⟨a1, a2, a3, a4, a5, a6, a7, a8, a9, a10, a11, a12, a13⟩ := h
  have hv : 0 ≤ s.newVal o ∧ s.newVal o ≤ 17592186044416 := by
    unfold Mt.newVal
    split
    · exact ⟨a9, a10⟩
    · rename_i hc
      have hr : 0 < s.room := by
        rcases Int.lt_or_le 0 s.room with h | h
        · exact h
        · exfalso
          apply hc
          by_cases h0 : s.room = 0
          · exact .inr h0
          · left; rw [a13, decide_eq_true_eq]; omega
      have hm := hmid hr
      have : 0 ≤ s.val * (s.room + 9 * (s.u - o) * (s.n - s.seen)) / (10 * s.room) := Int.ediv_nonneg hm.2.2.1 (by omega)
      omega
  have hb : 4294967296 ≤ s.newBest o ∧ s.newBest o ≤ 17592186044416 := by
    unfold Mt.newBest
    split
    · exact ⟨a11, a12⟩
    · omega
  exact ⟨a1, a2, a3, a4, by simp only [Mt.next]; omega, by simp only [Mt.next]; omega, by simp only [Mt.next]; omega, by simp only [Mt.next]; omega, hv.1, hv.2, hb.1, hb.2, rfl⟩

theorem Mt.best_mono (s : Mt) (o : Int) : s.best ≤ (s.next o).best := by
  show s.best ≤ s.newBest o
  unfold Mt.newBest
  split <;> omega
theorem Mt.pr_mono {s : Mt} (h : s.Ok) {o : Int} (h2 : o ≤ s.u) (hp : s.pr = true) : (s.next o).pr = true := by
  have := h.p
  rw [hp] at this
  have hr : s.room < 0 := of_decide_eq_true this.symm
  show decide (s.room - (s.u - o) < 0) = true
  rw [decide_eq_true_eq]; omega

end Go.Proofs.Nums
