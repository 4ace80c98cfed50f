import Derived.Test.YtlhkjkhbgebgiaaGN
/- Rational numbers as a sign, a numerator and a denominator. No program in sight. -/
namespace Go.Proofs.Nums

structure Q where
  neg : Bool
  n : Nat
  d : Nat

/-- The normal form. -/
def Q.mk' (neg : Bool) (n d : Nat) : Q := if n = 0 ∨ d = 0 then ⟨false, 0, 1⟩ else ⟨neg, n / Nat.gcd n d, d / Nat.gcd n d⟩

def Q.norm (q : Q) : Q := Q.mk' q.neg q.n q.d

theorem Q.mk'_zero {neg : Bool} {n d : Nat} (h : n = 0 ∨ d = 0) : Q.mk' neg n d = ⟨false, 0, 1⟩ := by unfold Q.mk'; rw [if_pos h]
theorem Q.mk'_pos {neg : Bool} {n d : Nat} (hn : 0 < n) (hd : 0 < d) : Q.mk' neg n d = ⟨neg, n / Nat.gcd n d, d / Nat.gcd n d⟩ := by unfold Q.mk'; rw [if_neg (by omega)]

/-- The sum of two signed numbers. -/
def sumS (an : Bool) (a : Nat) (bn : Bool) (b : Nat) : Bool × Nat :=
  if an = bn then (an, a + b) else if b ≤ a then (an, a - b) else (bn, b - a)

def Q.addR (a b : Q) : Q :=
  let s := sumS a.neg (a.n * b.d) b.neg (b.n * a.d)
  Q.mk' s.1 s.2 (a.d * b.d)
def Q.add (a b : Q) : Q := Q.addR a.norm b.norm
def Q.flip (a : Q) : Q := ⟨!a.neg, a.n, a.d⟩
def Q.sub (a b : Q) : Q := Q.add a b.flip
def Q.mul (a b : Q) : Q := Q.mk' (a.neg != b.neg) (a.n * b.n) (a.d * b.d)
/-- The order, by the sign of the difference. -/
def Q.cmp (a b : Q) : Int := let d := Q.sub a b; if d.neg then -1 else if d.n = 0 then 0 else 1

/-- The integer z. -/
def Q.of (z : Int) : Q := Q.mk' (decide (z < 0)) z.natAbs 1

/-- The sizes of a number's parts. -/
def Q.Sz (q : Q) (K : Nat) : Prop := (bitsN q.n).length ≤ K ∧ (bitsN q.d).length ≤ K

theorem bits_len_le' {n m : Nat} (h : m ≤ n) : (bitsN m).length ≤ (bitsN n).length := bits_len_le m _ (Nat.lt_of_le_of_lt h (bits_lt_pow n))

theorem Q.mk'_sz {neg : Bool} {n d K : Nat} (h1 : (bitsN n).length ≤ K) (h2 : (bitsN d).length ≤ K) (hK : 1 ≤ K) : (Q.mk' neg n d).Sz K := by
  unfold Q.mk' Q.Sz
  split
  · exact ⟨Nat.zero_le _, hK⟩
  · exact ⟨Nat.le_trans (bits_len_le' (Nat.div_le_self _ _)) h1, Nat.le_trans (bits_len_le' (Nat.div_le_self _ _)) h2⟩

end Go.Proofs.Nums

/- The algebra of the Ratios: normal forms, sums, products, the order. No program in sight. -/
namespace Go.Proofs.Nums

/-- The signed numerator. -/
def Q.s (q : Q) : Int := if q.neg then -(q.n : Int) else q.n
/-- In normal form. -/
def Q.Nf (q : Q) : Prop := 0 < q.d ∧ (q.n = 0 → q.neg = false) ∧ Nat.gcd q.n q.d = 1
/-- q is z / d. -/
def Q.Rep (q : Q) (z : Int) (d : Nat) : Prop := q.s * (d : Int) = z * (q.d : Int)
def sg (neg : Bool) (n : Nat) : Int := if neg then -(n : Int) else n

theorem Q.mk'_nf (neg : Bool) (n d : Nat) : (Q.mk' neg n d).Nf := by
  unfold Q.mk' Q.Nf
  split
  · exact ⟨by decide, fun _ => rfl, rfl⟩
  · rename_i h
    have hn : 0 < n := by omega
    have hd : 0 < d := by omega
    have hg := Nat.gcd_pos_of_pos_left d hn
    refine ⟨Nat.div_pos (Nat.le_of_dvd hd (Nat.gcd_dvd_right n d)) hg, fun h0 => ?_, ?_⟩
    · exfalso
      have := Nat.div_pos (Nat.le_of_dvd hn (Nat.gcd_dvd_left n d)) hg
      simp only at h0
      omega
    · show Nat.gcd (n / Nat.gcd n d) (d / Nat.gcd n d) = 1
      rw [Nat.gcd_div (Nat.gcd_dvd_left n d) (Nat.gcd_dvd_right n d), Nat.div_self hg]

theorem Q.mk'_rep (neg : Bool) (n d : Nat) (hd : 0 < d) : (Q.mk' neg n d).Rep (sg neg n) d := by
  unfold Q.mk' Q.Rep Q.s sg
  split
  · rename_i h
    have hn : n = 0 := by omega
    subst hn
    simp
  · rename_i h
    have hn : 0 < n := by omega
    obtain ⟨g, hg⟩ : ∃ g, Nat.gcd n d = g := ⟨_, rfl⟩
    rw [hg]
    obtain ⟨a, ha⟩ : g ∣ n := by rw [← hg]; exact Nat.gcd_dvd_left n d
    obtain ⟨b, hb⟩ : g ∣ d := by rw [← hg]; exact Nat.gcd_dvd_right n d
    have hg0 : 0 < g := by rw [← hg]; exact Nat.gcd_pos_of_pos_left d hn
    have e1 : n / g = a := by rw [ha, Nat.mul_div_cancel_left _ hg0]
    have e2 : d / g = b := by rw [hb, Nat.mul_div_cancel_left _ hg0]
    have hnc : (n : Int) = g * a := by rw [ha]; push_cast; rfl
    have hdc : (d : Int) = g * b := by rw [hb]; push_cast; rfl
    simp only [e1, e2]
    cases neg <;> simp <;> rw [hnc, hdc] <;> grind

/-- Two normal forms of one fraction are one. -/
theorem Q.nf_uniq {p q : Q} (hp : p.Nf) (hq : q.Nf) (h : p.s * (q.d : Int) = q.s * (p.d : Int)) : p = q := by
  obtain ⟨pn, p1, p2⟩ := p
  obtain ⟨qn, q1, q2⟩ := q
  obtain ⟨a1, a2, a3⟩ := hp
  obtain ⟨b1, b2, b3⟩ := hq
  simp only [Q.s] at *
  have habs : p1 * q2 = q1 * p2 := by
    have := congrArg Int.natAbs h
    rw [Int.natAbs_mul, Int.natAbs_mul] at this
    cases pn <;> cases qn <;> simpa using this
  have h1 : p1 ∣ q1 := by
    have : p1 ∣ q1 * p2 := ⟨q2, habs.symm⟩
    exact (Nat.Coprime.dvd_of_dvd_mul_right a3 this)
  have h2 : q1 ∣ p1 := by
    have : q1 ∣ p1 * q2 := ⟨p2, habs⟩
    exact (Nat.Coprime.dvd_of_dvd_mul_right b3 this)
  have e1 := Nat.dvd_antisymm h1 h2
  subst e1
  have e2 : p2 = q2 := by
    rcases Nat.eq_zero_or_pos p1 with h0 | h0
    · subst h0
      simp at a3 b3
      rw [a3, b3]
    · exact (Nat.eq_of_mul_eq_mul_left h0 habs).symm
  subst e2
  have e3 : pn = qn := by
    rcases Nat.eq_zero_or_pos p1 with h0 | h0
    · rw [a2 h0, b2 h0]
    · have hd : (p2 : Int) ≠ 0 := by omega
      have h4 := Int.eq_of_mul_eq_mul_right hd h
      cases pn <;> cases qn <;> simp at h4 ⊢ <;> omega
  rw [e3]

theorem Q.norm_nf (q : Q) : q.norm.Nf := Q.mk'_nf _ _ _
theorem Q.nf_norm {q : Q} (h : q.Nf) : q.norm = q := by
  refine Q.nf_uniq (Q.norm_nf q) h ?_
  exact Q.mk'_rep q.neg q.n q.d h.1

theorem Q.norm_idem (q : Q) : q.norm.norm = q.norm := Q.nf_norm (Q.norm_nf q)

/-- A normal form is known by its fraction. -/
theorem Q.eq_of_rep {p q : Q} {z t : Int} {d e : Nat} (hp : p.Nf) (hq : q.Nf) (h1 : p.Rep z d) (h2 : q.Rep t e) (hd : 0 < d) (he : 0 < e) (h : z * (e : Int) = t * (d : Int)) : p = q := by
  refine Q.nf_uniq hp hq ?_
  unfold Q.Rep at h1 h2
  have hd' : (d : Int) ≠ 0 := by omega
  have he' : (e : Int) ≠ 0 := by omega
  refine Int.eq_of_mul_eq_mul_right hd' (Int.eq_of_mul_eq_mul_right he' ?_)
  grind

theorem sg_sum (an : Bool) (a : Nat) (bn : Bool) (b : Nat) : sg (sumS an a bn b).1 (sumS an a bn b).2 = sg an a + sg bn b := by
  unfold sumS sg
  cases an <;> cases bn <;> simp <;> (first | omega | (split <;> simp <;> omega))
theorem sg_mul (an bn : Bool) (a b : Nat) : sg (an != bn) (a * b) = sg an a * sg bn b := by
  unfold sg
  cases an <;> cases bn <;> simp <;> grind
theorem sg_cast (an : Bool) (a b : Nat) : sg an (a * b) = sg an a * (b : Int) := by
  unfold sg
  cases an <;> simp <;> grind
theorem sg_flip (an : Bool) (a : Nat) : sg (!an) a = - sg an a := by
  unfold sg
  cases an <;> simp
theorem Q.s_sg (q : Q) : q.s = sg q.neg q.n := rfl

theorem Q.norm_rep (q : Q) (h : 0 < q.d) : q.norm.Rep q.s q.d := Q.mk'_rep _ _ _ h

/-- The sum of two in normal form. -/
theorem Q.addR_rep {a b : Q} (ha : 0 < a.d) (hb : 0 < b.d) : (Q.addR a b).Rep (a.s * b.d + b.s * a.d) (a.d * b.d) := by
  have := Q.mk'_rep (sumS a.neg (a.n * b.d) b.neg (b.n * a.d)).1 (sumS a.neg (a.n * b.d) b.neg (b.n * a.d)).2 (a.d * b.d) (Nat.mul_pos ha hb)
  rw [sg_sum, sg_cast, sg_cast] at this
  exact this
theorem Q.addR_nf (a b : Q) : (Q.addR a b).Nf := Q.mk'_nf _ _ _

theorem Q.mul_rep {a b : Q} (ha : 0 < a.d) (hb : 0 < b.d) : (Q.mul a b).Rep (a.s * b.s) (a.d * b.d) := by
  have := Q.mk'_rep (a.neg != b.neg) (a.n * b.n) (a.d * b.d) (Nat.mul_pos ha hb)
  rw [sg_mul] at this
  exact this
theorem Q.mul_nf (a b : Q) : (Q.mul a b).Nf := Q.mk'_nf _ _ _

theorem Q.norm_zero {q : Q} (h : q.n = 0 ∨ q.d = 0) : q.norm = ⟨false, 0, 1⟩ := Q.mk'_zero h
theorem Q.norm_d (q : Q) : 0 < q.norm.d := (Q.norm_nf q).1

/-- The product may be taken of the normal forms. -/
theorem Q.mul_norm (a b : Q) : Q.mul a b = Q.mul a.norm b.norm := by
  by_cases h : a.n = 0 ∨ a.d = 0
  · rw [Q.norm_zero h]
    unfold Q.mul
    rw [Q.mk'_zero (by rcases h with h | h <;> simp [h]), Q.mk'_zero (by simp)]
  · by_cases h2 : b.n = 0 ∨ b.d = 0
    · rw [Q.norm_zero h2]
      unfold Q.mul
      rw [Q.mk'_zero (by rcases h2 with h | h <;> simp [h]), Q.mk'_zero (by simp)]
    · have hda : 0 < a.d := by omega
      have hdb : 0 < b.d := by omega
      have r1 := Q.norm_rep a hda
      have r2 := Q.norm_rep b hdb
      refine Q.eq_of_rep (Q.mul_nf _ _) (Q.mul_nf _ _) (Q.mul_rep hda hdb) (Q.mul_rep (Q.norm_d a) (Q.norm_d b)) (Nat.mul_pos hda hdb) (Nat.mul_pos (Q.norm_d a) (Q.norm_d b)) ?_
      unfold Q.Rep at r1 r2
      push_cast
      grind

/-- The opposite of the normal form. -/
theorem Q.flip_norm (a : Q) : a.flip.norm = Q.mk' (!a.norm.neg) a.norm.n a.norm.d := by
  by_cases h : a.n = 0 ∨ a.d = 0
  · rw [Q.norm_zero h, Q.norm_zero (q := a.flip) (by simpa [Q.flip] using h)]
    rw [Q.mk'_zero (by simp)]
  · have hda : 0 < a.d := by omega
    have r1 := Q.norm_rep a hda
    refine Q.eq_of_rep (Q.norm_nf _) (Q.mk'_nf _ _ _) (Q.norm_rep a.flip hda) (Q.mk'_rep _ _ _ (Q.norm_d a)) hda (Q.norm_d a) ?_
    unfold Q.Rep at r1
    rw [sg_flip]
    have e : a.flip.s = - a.s := by rw [Q.s_sg, Q.s_sg]; exact sg_flip _ _
    rw [e, ← Q.s_sg]
    have e2 : a.flip.d = a.d := rfl
    rw [e2]
    grind

theorem Q.sub_eq (a b : Q) : Q.sub a b = Q.addR a.norm (Q.mk' (!b.norm.neg) b.norm.n b.norm.d) := by
  unfold Q.sub Q.add
  rw [Q.flip_norm]

theorem Q.s_zero {q : Q} : q.s = 0 ↔ q.n = 0 := by
  unfold Q.s
  cases q.neg <;> simp

/-- The sign of the difference. -/
theorem Q.cmp_zero {a b : Q} (h : Q.cmp a b = 0) : a.norm = b.norm := by
  unfold Q.cmp at h
  simp only at h
  have hn : (Q.sub a b).n = 0 := by
    split at h
    · simp at h
    · split at h
      · assumption
      · simp at h
  have hf : (Q.mk' (!b.norm.neg) b.norm.n b.norm.d).Nf := Q.mk'_nf _ _ _
  have r2 := Q.mk'_rep (!b.norm.neg) b.norm.n b.norm.d (Q.norm_d b)
  have r := Q.addR_rep (Q.norm_d a) hf.1
  rw [← Q.sub_eq] at r
  unfold Q.Rep at r r2
  rw [sg_flip, ← Q.s_sg] at r2
  rw [Q.s_zero.2 hn, Int.zero_mul] at r
  have hd : ((Q.sub a b).d : Int) ≠ 0 := by
    have : (Q.sub a b).Nf := Q.addR_nf _ _
    have := this.1
    omega
  have h0 : a.norm.s * ((Q.mk' (!b.norm.neg) b.norm.n b.norm.d).d : Int) + (Q.mk' (!b.norm.neg) b.norm.n b.norm.d).s * (a.norm.d : Int) = 0 := by
    rcases Int.mul_eq_zero.1 r.symm with h | h
    · exact h
    · exact absurd h hd
  refine Q.nf_uniq (Q.norm_nf a) (Q.norm_nf b) ?_
  have hfd : ((Q.mk' (!b.norm.neg) b.norm.n b.norm.d).d : Int) ≠ 0 := by have := hf.1; omega
  refine Int.eq_of_mul_eq_mul_right hfd ?_
  grind

end Go.Proofs.Nums

/- Division of Ratios, plain. -/
namespace Go.Proofs.Nums

/-- a / b over the fields. -/
def Q.divR (a b : Q) : Q := Q.mk' (a.neg != b.neg) (a.n * b.d) (a.d * b.n)
/-- a / b of the normal forms; for the divisor 0 the empty Ratio. -/
def Q.div (a b : Q) : Q := if b.norm.n = 0 then ⟨false, 0, 0⟩ else Q.divR a.norm b.norm

end Go.Proofs.Nums
