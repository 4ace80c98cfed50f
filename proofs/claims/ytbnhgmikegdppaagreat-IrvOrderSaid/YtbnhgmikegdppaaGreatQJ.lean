/- Contracts and plain facts, part 10: Va, I0, I1, I2, Vc, I3, I4. No condition beyond those that each theorem states. -/
import Derived.Test.YtbnhgmikegdppaaGreatQI
/- Piles, plain: groups of equal ballots, their weights; what candidates can be reached. -/
namespace Go.Proofs.Nums

/-- A group of equal ballots. -/
structure Grp where
  p : List Int
  n : Int
/-- The weight of the ballots that f takes. -/
def sumF (f : List Int → Bool) (gs : List Grp) : Int := (gs.map fun g => if f g.p = true then g.n else 0).sum
theorem sumF_nil (f : List Int → Bool) : sumF f [] = 0 := rfl
theorem sumF_cons (f : List Int → Bool) (g : Grp) (gs : List Grp) : sumF f (g :: gs) = (if f g.p = true then g.n else 0) + sumF f gs := by simp [sumF]
theorem sumF_snoc (f : List Int → Bool) (g : Grp) (gs : List Grp) : sumF f (gs ++ [g]) = sumF f gs + (if f g.p = true then g.n else 0) := by simp [sumF]
theorem sumF_congr {f h : List Int → Bool} {gs : List Grp} (e : ∀ g ∈ gs, f g.p = h g.p) : sumF f gs = sumF h gs := by
  induction gs with
  | nil => rfl
  | cons g gs ih => rw [sumF_cons, sumF_cons, e g (by simp), ih fun g hg => e g (by simp [hg])]
/-- No group is empty. -/
def PosG (gs : List Grp) : Prop := ∀ g ∈ gs, 1 ≤ g.n
theorem PosG.tail {g : Grp} {gs : List Grp} (h : PosG (g :: gs)) : PosG gs := fun x hx => h x (by simp [hx])
theorem sumF_nn {f : List Int → Bool} {gs : List Grp} (h : PosG gs) : 0 ≤ sumF f gs := by
  induction gs with
  | nil => exact Int.le_refl _
  | cons g gs ih =>
    rw [sumF_cons]
    have := ih h.tail
    have := h g (by simp)
    split <;> omega
theorem sumF_le {f h : List Int → Bool} {gs : List Grp} (hp : PosG gs) (e : ∀ g ∈ gs, f g.p = true → h g.p = true) : sumF f gs ≤ sumF h gs := by
  induction gs with
  | nil => exact Int.le_refl _
  | cons g gs ih =>
    rw [sumF_cons, sumF_cons]
    have h1 := ih hp.tail fun g hg => e g (by simp [hg])
    have h2 := hp g (by simp)
    have h3 := e g (by simp)
    by_cases hf : f g.p = true
    · rw [if_pos hf, if_pos (h3 hf)]; omega
    · rw [if_neg hf]; split <;> omega
theorem sumF_two {f h e : List Int → Bool} {gs : List Grp} (hp : PosG gs) (h1 : ∀ g ∈ gs, f g.p = true → e g.p = true) (h2 : ∀ g ∈ gs, h g.p = true → e g.p = true) (h3 : ∀ g ∈ gs, f g.p = true → h g.p = true → False) : sumF f gs + sumF h gs ≤ sumF e gs := by
  induction gs with
  | nil => exact Int.le_refl _
  | cons g gs ih =>
    rw [sumF_cons, sumF_cons, sumF_cons]
    have i1 := ih hp.tail (fun g hg => h1 g (by simp [hg])) (fun g hg => h2 g (by simp [hg])) (fun g hg => h3 g (by simp [hg]))
    have i2 := hp g (by simp)
    have j1 := h1 g (by simp)
    have j2 := h2 g (by simp)
    have j3 := h3 g (by simp)
    by_cases hf : f g.p = true
    · by_cases hh : h g.p = true
      · exact (j3 hf hh).elim
      · rw [if_pos hf, if_neg hh, if_pos (j1 hf)]; omega
    · by_cases hh : h g.p = true
      · rw [if_neg hf, if_pos hh, if_pos (j2 hh)]; omega
      · rw [if_neg hf, if_neg hh]; split <;> omega

/-- Lexicographic order. -/
def ltL : List Int → List Int → Bool
  | _, [] => false
  | [], _ :: _ => true
  | a :: xs, b :: ys => if a = b then ltL xs ys else decide (a < b)
/-- k equal ballots more. -/
def addS : List Grp → List Int → Int → List Grp
  | [], p, k => [⟨p, k⟩]
  | g :: gs, p, k => if ltL g.p p = true then g :: addS gs p k else if g.p = p then ⟨g.p, g.n + k⟩ :: gs else ⟨p, k⟩ :: g :: gs
theorem sumF_add (f : List Int → Bool) (gs : List Grp) (p : List Int) (k : Int) : sumF f (addS gs p k) = sumF f gs + (if f p = true then k else 0) := by
  induction gs with
  | nil => simp [addS, sumF]
  | cons g gs ih =>
    unfold addS
    split
    · rw [sumF_cons, ih, sumF_cons]; omega
    · split
      · next e =>
        rw [sumF_cons, sumF_cons, e]
        simp only
        split <;> omega
      · rw [sumF_cons]; simp only; omega
theorem PosG.add {gs : List Grp} (h : PosG gs) (p : List Int) {k : Int} (hk : 1 ≤ k) : PosG (addS gs p k) := by
  induction gs with
  | nil =>
    intro g hg
    have : g = ⟨p, k⟩ := by simpa [addS] using hg
    rw [this]; exact hk
  | cons a gs ih =>
    have ha := h a (by simp)
    unfold addS
    split
    · intro g hg
      rcases List.mem_cons.1 hg with e | e
      · rw [e]; exact ha
      · exact ih h.tail g e
    · split
      · intro g hg
        rcases List.mem_cons.1 hg with e | e
        · rw [e]; simp only; omega
        · exact h.tail g e
      · intro g hg
        rcases List.mem_cons.1 hg with e | e
        · rw [e]; exact hk
        · exact h g e
theorem mem_add {gs : List Grp} {p : List Int} {k : Int} {P : List Int → Prop} (h : ∀ g ∈ gs, P g.p) (hp : P p) : ∀ g ∈ addS gs p k, P g.p := by
  induction gs with
  | nil =>
    intro g hg
    have : g = ⟨p, k⟩ := by simpa [addS] using hg
    rw [this]; exact hp
  | cons a gs ih =>
    have ha := h a (by simp)
    unfold addS
    split
    · intro g hg
      rcases List.mem_cons.1 hg with e | e
      · rw [e]; exact ha
      · exact ih (fun g hg => h g (by simp [hg])) g e
    · split
      · intro g hg
        rcases List.mem_cons.1 hg with e | e
        · rw [e]; exact ha
        · exact h g (by simp [e])
      · intro g hg
        rcases List.mem_cons.1 hg with e | e
        · rw [e]; exact hp
        · exact h g e
/-- The pile of some ballots. -/
def makeS (bs : List (List Int)) : List Grp := bs.foldl (fun gs b => addS gs b 1) []
theorem makeS_snoc (bs : List (List Int)) (b : List Int) : makeS (bs ++ [b]) = addS (makeS bs) b 1 := by simp [makeS]
theorem fold_sum (f : List Int → Bool) (bs : List (List Int)) (gs : List Grp) : sumF f (bs.foldl (fun gs b => addS gs b 1) gs) = sumF f gs + (bs.countP f : Int) := by
  induction bs generalizing gs with
  | nil => simp
  | cons b bs ih =>
    rw [List.foldl_cons, ih, sumF_add, List.countP_cons]
    split <;> simp <;> omega
theorem make_sum (f : List Int → Bool) (bs : List (List Int)) : sumF f (makeS bs) = (bs.countP f : Int) := by
  unfold makeS; rw [fold_sum, sumF_nil, Int.zero_add]
theorem make_pos (bs : List (List Int)) : PosG (makeS bs) := by
  have : ∀ gs, PosG gs → PosG (bs.foldl (fun gs b => addS gs b 1) gs) := by
    induction bs with
    | nil => exact fun gs h => h
    | cons b bs ih => exact fun gs h => ih _ (h.add b (Int.le_refl _))
  exact this [] (fun g hg => by simp at hg)
theorem make_mem {bs : List (List Int)} {P : List Int → Prop} (h : ∀ b ∈ bs, P b) : ∀ g ∈ makeS bs, P g.p := by
  have : ∀ gs : List Grp, (∀ g ∈ gs, P g.p) → ∀ g ∈ bs.foldl (fun gs b => addS gs b 1) gs, P g.p := by
    induction bs with
    | nil => exact fun gs h => h
    | cons b bs ih => exact fun gs hg => ih (fun b hb => h b (by simp [hb])) _ (mem_add hg (h b (by simp)))
  exact this [] (fun g hg => by simp at hg)

/-- The first that remains, or -1. -/
def firstC (R : Int → Bool) (p : List Int) : Int := (p.find? R).getD (-1)
/-- The votes of c where R remains; -1: those of nobody. -/
def wt (R : Int → Bool) (gs : List Grp) (c : Int) : Int := sumF (fun p => decide (firstC R p = c)) gs
theorem first_iff {R : Int → Bool} {p : List Int} {c : Int} (h : c ≠ -1) : firstC R p = c ↔ p.find? R = some c := by
  unfold firstC
  cases hp : p.find? R with
  | none => simp; omega
  | some x => simp
theorem find_mono {R R' : Int → Bool} {p : List Int} {c : Int} (hs : ∀ d, R' d = true → R d = true) (hc : R' c = true) (h : p.find? R = some c) : p.find? R' = some c := by
  induction p with
  | nil => simp at h
  | cons a p ih =>
    rw [List.find?_cons] at h ⊢
    cases ha : R a with
    | true =>
      rw [ha] at h
      have : a = c := by simpa using h
      rw [this, hc]
    | false =>
      rw [ha] at h
      have : R' a = false := by
        cases g : R' a with
        | false => rfl
        | true => rw [hs a g] at ha; simp at ha
      rw [this]
      exact ih h
theorem wt_mono {R R' : Int → Bool} {gs : List Grp} {c : Int} (hp : PosG gs) (hs : ∀ d, R' d = true → R d = true) (hc : R' c = true) (h1 : c ≠ -1) : wt R gs c ≤ wt R' gs c := by
  refine sumF_le hp fun g _ h => ?_
  rw [decide_eq_true_iff, first_iff h1] at h ⊢
  exact find_mono hs hc h
/-- The ballots that are not blank. -/
def markedS (gs : List Grp) : Int := sumF (fun p => !p.isEmpty) gs
theorem wt_two {R : Int → Bool} {gs : List Grp} {c x : Int} (hp : PosG gs) (h1 : c ≠ -1) (h2 : x ≠ -1) (h : c ≠ x) : wt R gs c + wt R gs x ≤ markedS gs := by
  have hne : ∀ {y : Int} {g : Grp}, y ≠ -1 → decide (firstC R g.p = y) = true → (!g.p.isEmpty) = true := by
    intro y g hy e
    rw [decide_eq_true_iff, first_iff hy] at e
    cases hg : g.p with
    | nil => rw [hg] at e; simp at e
    | cons a t => rfl
  refine sumF_two hp (fun g _ e => hne h1 e) (fun g _ e => hne h2 e) (fun g _ e1 e2 => ?_)
  rw [decide_eq_true_iff] at e1 e2
  exact h (e1.symm.trans e2)

/-- x has the least votes of all that remain. -/
def Low (gs : List Grp) (R : Int → Bool) (x : Int) : Prop := R x = true ∧ ∀ d, R d = true → wt R gs x ≤ wt R gs d
/-- What can remain, by some way of breaking ties. -/
inductive Rch (n : Int) (gs : List Grp) : (Int → Bool) → Prop
  | full : Rch n gs (fun c => decide (0 ≤ c ∧ c < n))
  | step {R : Int → Bool} {x d : Int} : Rch n gs R → Low gs R x → R d = true → d ≠ x → Rch n gs (fun d => R d && decide (d ≠ x))
def single (c : Int) : Int → Bool := fun d => decide (d = c)
theorem Rch.range {n : Int} {gs : List Grp} {R : Int → Bool} (h : Rch n gs R) : ∀ c, R c = true → 0 ≤ c ∧ c < n := by
  induction h with
  | full => intro c hc; simpa using hc
  | step h _ _ _ ih => intro c hc; rw [Bool.and_eq_true] at hc; exact ih c hc.1

/-- One with more than half of the marked ballots remains. -/
theorem maj_stays {n : Int} {gs : List Grp} (hp : PosG gs) {x : Int} (hx : 0 ≤ x ∧ x < n) (hm : markedS gs < 2 * wt (fun c => decide (0 ≤ c ∧ c < n)) gs x) {R : Int → Bool} (h : Rch n gs R) : R x = true ∧ markedS gs < 2 * wt R gs x := by
  induction h with
  | full => exact ⟨by simpa using hx, hm⟩
  | @step R y d h hl hd hdy ih =>
    obtain ⟨i1, i2⟩ := ih
    have hyx : x ≠ y := by
      rintro rfl
      have h1 := hl.2 d hd
      have h2 := wt_two (R := R) hp (by omega) (by have := h.range d hd; omega) (Ne.symm hdy)
      omega
    have hR : (R x && decide (x ≠ y)) = true := by simp [i1, hyx]
    refine ⟨hR, ?_⟩
    have := wt_mono (R := R) (gs := gs) hp (R' := fun d => R d && decide (d ≠ y)) (fun d hd => (Bool.and_eq_true _ _ ▸ hd : _ ∧ _).1) hR (by omega)
    omega
theorem maj_wins {n : Int} {gs : List Grp} (hp : PosG gs) {x c : Int} (hx : 0 ≤ x ∧ x < n) (hm : markedS gs < 2 * wt (fun c => decide (0 ≤ c ∧ c < n)) gs x) (h : Rch n gs (single c)) : c = x := by
  have := (maj_stays hp hx hm h).1
  simp [single] at this
  exact this.symm

/-- A majority that ranks the set A before all others. -/
theorem solid_stays {n : Int} {gs : List Grp} (hp : PosG gs) {A : Int → Bool} {f : List Int → Bool} (hA : ∃ a, A a = true ∧ 0 ≤ a ∧ a < n) (hf : ∀ g ∈ gs, f g.p = true → ∀ R : Int → Bool, ∀ a, A a = true → R a = true → (∀ b, A b = true → R b = true → b = a) → 0 ≤ a → firstC R g.p = a)
    (hm : markedS gs < 2 * sumF f gs) {R : Int → Bool} (h : Rch n gs R) : ∃ a, A a = true ∧ R a = true := by
  induction h with
  | full => obtain ⟨a, h1, h2⟩ := hA; exact ⟨a, h1, by simpa using h2⟩
  | @step R y d h hl hd hdy ih =>
    obtain ⟨a, h1, h2⟩ := ih
    by_cases hay : ∃ b, A b = true ∧ R b = true ∧ b ≠ y
    · obtain ⟨b, b1, b2, b3⟩ := hay
      exact ⟨b, b1, by simp [b2, b3]⟩
    · have hall : ∀ b, A b = true → R b = true → b = y := fun b b1 b2 => Classical.byContradiction fun g => hay ⟨b, b1, b2, g⟩
      have e := hall a h1 h2
      subst e
      have hr := h.range a h2
      have hs : sumF f gs ≤ wt R gs a := sumF_le hp fun g hg hh => by
        rw [decide_eq_true_iff]
        exact hf g hg hh R a h1 h2 (fun b b1 b2 => hall b b1 b2) hr.1
      have k1 := hl.2 d hd
      have k2 := wt_two (R := R) hp (by omega) (by have := h.range d hd; omega) (Ne.symm hdy)
      omega

/-- The set of two. -/
def pair (a b : Int) : Int → Bool := fun d => decide (d = a) || decide (d = b)
theorem last_step {n : Int} {gs : List Grp} {c : Int} (hn : 2 ≤ n) (h : Rch n gs (single c)) : ∃ x, x ≠ c ∧ 0 ≤ x ∧ x < n ∧ wt (pair c x) gs x ≤ wt (pair c x) gs c := by
  generalize hS : single c = S at h
  cases h with
  | full =>
    have h0 := congrFun hS 0
    have h1 := congrFun hS 1
    simp only [single] at h0 h1
    have e0 : (0 : Int) = c := by rw [decide_eq_decide] at h0; exact h0.2 (by omega)
    have e1 : (1 : Int) = c := by rw [decide_eq_decide] at h1; exact h1.2 (by omega)
    omega
  | @step R x d h hl hd hdx =>
    have hc : R c = true ∧ c ≠ x := by
      have := congrFun hS c
      simpa [single] using this.symm
    have hR : R = pair c x := by
      funext y
      have := congrFun hS y
      simp only [single] at this
      unfold pair
      by_cases hy : y = x
      · subst hy; simp [hl.1]
      · by_cases hyc : y = c
        · subst hyc; simp [hc.1]
        · simp only [hyc, hy, decide_false, Bool.or_self]
          simpa [hyc, hy] using this.symm
    have hr := h.range x hl.1
    refine ⟨x, fun e => hc.2 e.symm, hr.1, hr.2, ?_⟩
    have := hl.2 c hc.1
    rw [hR] at this
    exact this

end Go.Proofs.Nums

/- Lists of integers in lexicographic order: the reference's Less and Eq, slices.Compare; pile.isBallot. -/
namespace Go.Proofs.Nums

theorem lt_at {a b : List Int} {k : Nat} (ha : k < a.length) (hb : k < b.length) (h : a.take k = b.take k) (hne : a.getD k 0 ≠ b.getD k 0) : ltL a b = decide (a.getD k 0 < b.getD k 0) := by
  induction k generalizing a b with
  | zero =>
    cases a with
    | nil => simp at ha
    | cons x a =>
      cases b with
      | nil => simp at hb
      | cons y b =>
        have : ¬ x = y := by simpa using hne
        simp [ltL, this]
  | succ k ih =>
    cases a with
    | nil => simp at ha
    | cons x a =>
      cases b with
      | nil => simp at hb
      | cons y b =>
        rw [List.take_succ_cons, List.take_succ_cons, List.cons.injEq] at h
        unfold ltL
        rw [if_pos h.1]
        simpa using ih (by simpa using ha) (by simpa using hb) h.2 (by simpa using hne)
theorem lt_end {a b : List Int} {k : Nat} (ha : k ≤ a.length) (hb : k ≤ b.length) (h : a.take k = b.take k) (hk : k = a.length ∨ k = b.length) : ltL a b = decide (a.length < b.length) := by
  induction k generalizing a b with
  | zero =>
    cases a with
    | nil => cases b <;> simp [ltL]
    | cons x a =>
      cases b with
      | nil => simp [ltL]
      | cons y b => simp at hk
  | succ k ih =>
    cases a with
    | nil => simp at ha
    | cons x a =>
      cases b with
      | nil => simp at hb
      | cons y b =>
        rw [List.take_succ_cons, List.take_succ_cons, List.cons.injEq] at h
        unfold ltL
        rw [if_pos h.1, ih (by simpa using ha) (by simpa using hb) h.2 (by simpa using hk)]
        simp
theorem take_same {a b : List Int} {k : Nat} (ha : k < a.length) (hb : k < b.length) (h : a.take k = b.take k) (he : a.getD k 0 = b.getD k 0) : a.take (k + 1) = b.take (k + 1) := by
  rw [take_snoc_i ha, take_snoc_i hb, h, he]
theorem ltL_irr (a : List Int) : ltL a a = false := by
  induction a with
  | nil => rfl
  | cons x a ih => unfold ltL; rw [if_pos rfl]; exact ih
theorem ltL_neither {a b : List Int} : (ltL a b = false ∧ ltL b a = false) ↔ a = b := by
  constructor
  · induction a generalizing b with
    | nil =>
      cases b with
      | nil => exact fun _ => rfl
      | cons y b => intro h; simp [ltL] at h
    | cons x a ih =>
      cases b with
      | nil => intro h; simp [ltL] at h
      | cons y b =>
        intro h
        unfold ltL at h
        by_cases e : x = y
        · subst e
          rw [if_pos rfl, if_pos rfl] at h
          rw [ih h]
        · rw [if_neg e, if_neg (fun g => e g.symm), decide_eq_false_iff_not, decide_eq_false_iff_not] at h
          omega
  · rintro rfl
    exact ⟨ltL_irr _, ltL_irr _⟩
theorem ltL_asy {a b : List Int} (h : ltL a b = true) : ltL b a = false := by
  induction a generalizing b with
  | nil =>
    cases b with
    | nil => rfl
    | cons y b => rfl
  | cons x a ih =>
    cases b with
    | nil => simp [ltL] at h
    | cons y b =>
      unfold ltL at h ⊢
      by_cases e : x = y
      · subst e
        rw [if_pos rfl] at h ⊢
        exact ih h
      · rw [if_neg e, decide_eq_true_iff] at h
        rw [if_neg (fun g => e g.symm), decide_eq_false_iff_not]
        omega
/-- slices.Compare. -/
def cmpL (a b : List Int) : Int := if ltL a b = true then -1 else if ltL b a = true then 1 else 0
theorem cmpL_ge {a b : List Int} : decide (0 ≤ cmpL a b) = !ltL a b := by
  unfold cmpL
  cases ltL a b <;> cases ltL b a <;> simp
theorem eqL_dec {a b : List Int} : (!ltL a b && !ltL b a) = decide (a = b) := by
  rw [Bool.eq_iff_iff, decide_eq_true_iff, ← ltL_neither]
  simp

end Go.Proofs.Nums
namespace Go.Proofs.YtbnhgmikegdppaaGreat
open Go.RowKit Go.Proofs.Kit Go.Proofs.Nums

set_option maxHeartbeats 4000000 in
theorem less_c {va vb : Value} {a b : List Int} {w : World} (ha : IntsAt w va a) (hb : IntsAt w vb b) :
    Calls Tryz.prog 41 #[va, vb] w fun e w' => e = .returned (.bool (ltL a b)) ∧ Below w.heap.size w w' := by
  have HA := Lib.hid ha
  have HB := Lib.hid hb
  have ham := ha.len
  have hbm := hb.len
  obtain ⟨p, c, rfl⟩ := ha.shape
  obtain ⟨p', c', rfl⟩ := hb.shape
  obtain ⟨na, hna⟩ : ∃ n, a.length = n := ⟨_, rfl⟩
  obtain ⟨nb, hnb⟩ : ∃ n, b.length = n := ⟨_, rfl⟩
  have LA := Lib.hid hna
  have LB := Lib.hid hnb
  obtain ⟨r, hr⟩ : ∃ r, ltL a b = r := ⟨_, rfl⟩
  have HR := Lib.hid hr
  rw [hr]
  rw [hna] at ham HA ⊢
  rw [hnb] at hbm HB ⊢
  clear ha hb hna hnb hr
  go_enter Tryz.func41, Tryz.ntmps41
  go_wp2_with fail
  go_loopw [5] (fun iv wr => ∃ k : Nat, k ≤ na ∧ k ≤ nb ∧ iv = .int .i64 k ∧ Below w.heap.size w wr ∧ Hid (a.take k = b.take k)) (fun iv _ => na - (intOf iv).toNat)
  case atStart => exact ⟨0, by omega, by omega, rfl, Below.refl _ _, Lib.hid rfl⟩
  case round =>
    obtain ⟨k, hka, hkb, rfl, hbel, hP⟩ := hrel
    by_cases h1 : k < na
    · have z1 : (k : Int) < (na : Int) := by omega
      by_cases h2 : k < nb
      · have z2 : (k : Int) < (nb : Int) := by omega
        obtain ⟨b1, o1, e1, i1, i2, hc1⟩ := (HA.out.keep hbel).cellAt k (by rw [LA.out]; exact h1)
        obtain ⟨b2, o2, e2, j1, j2, hc2⟩ := (HB.out.keep hbel).cellAt k (by rw [LB.out]; exact h2)
        subst e1; subst e2
        obtain ⟨x, hx⟩ : ∃ x, a.getD k 0 = x := ⟨_, rfl⟩
        obtain ⟨y, hy⟩ : ∃ y, b.getD k 0 = y := ⟨_, rfl⟩
        rw [hx] at hc1
        rw [hy] at hc2
        have hd1 : wr.drew.cell? ⟨b1, o1 + k, none⟩ = some (.int .i64 x) := hc1
        have hd2 : wr.drew.cell? ⟨b2, o2 + k, none⟩ = some (.int .i64 y) := hc2
        by_cases hxy : x = y
        · have HX : Hid (a.take (k + 1) = b.take (k + 1)) := Lib.hid (take_same (by rw [LA.out]; exact h1) (by rw [LB.out]; exact h2) hP.out (by rw [hx, hy, hxy]))
          have q1 : (x == y) = true := by rw [hxy]; simp
          have q2 : (x != y) = false := by rw [hxy]; simp
          clear hx hy hxy
          go_wp2_with fail
          go_quiet (fail)
          all_goals
            go_wp2_with fail
            go_roundw
            case rel => exact ⟨k + 1, by omega, by omega, by go_num, below_drewN hbel _, HX⟩
            case measure => simp [intOf] <;> omega
        · have HX : Hid (decide (x < y) = r) := Lib.hid (by rw [← HR.out, lt_at (by rw [LA.out]; exact h1) (by rw [LB.out]; exact h2) hP.out (by rw [hx, hy]; exact hxy), hx, hy])
          have q1 : (x == y) = false := by rw [beq_eq_false_iff_ne]; exact hxy
          have q2 : (x != y) = true := by simpa using hxy
          clear hx hy hxy
          obtain ⟨dd, hdd⟩ : ∃ dd, decide (x < y) = dd := ⟨_, rfl⟩
          rw [hdd] at HX
          go_wp2_with fail
          go_quiet (fail)
          all_goals
            go_wp2_with fail
            go_quiet (fail)
            all_goals
              go_wp2_with fail
              go_ret
              exact ⟨ret_bb (by first | exact HX.out | (rw [hdd]; exact HX.out)), below_drewN (below_drewN hbel _) _⟩
      · have z2 : ¬ (k : Int) < (nb : Int) := by omega
        have HX : Hid (decide (na < nb) = r) := Lib.hid (by
          rw [← HR.out, lt_end (by rw [LA.out]; omega) (by rw [LB.out]; omega) hP.out (.inr (by rw [LB.out]; omega)), LA.out, LB.out])
        go_wp2_with fail
        go_ret
        exact ⟨ret_bb HX.out, hbel⟩
    · have z1 : ¬ (k : Int) < (na : Int) := by omega
      have HX : Hid (decide (na < nb) = r) := Lib.hid (by
        rw [← HR.out, lt_end (by rw [LA.out]; omega) (by rw [LB.out]; omega) hP.out (.inl (by rw [LA.out]; omega)), LA.out, LB.out])
      go_wp2_with fail
      go_ret
      exact ⟨ret_bb HX.out, hbel⟩

set_option maxHeartbeats 1000000 in
theorem eq_c {va vb : Value} {a b : List Int} {w : World} (ha : IntsAt w va a) (hb : IntsAt w vb b) :
    Calls Tryz.prog 17 #[va, vb] w fun e w' => e = .returned (.bool (decide (a = b))) ∧ Below w.heap.size w w' := by
  have L1 := Lib.hid (less_c ha hb)
  have L2 : Hid (∀ w', Below w.heap.size w w' → Calls Tryz.prog 41 #[vb, va] w' fun e w'' => e = .returned (.bool (ltL b a)) ∧ Below w'.heap.size w' w'') := Lib.hid (fun w' h => less_c (hb.keep h) (ha.keep h))
  have HE : Hid ((!ltL a b && !ltL b a) = decide (a = b)) := Lib.hid eqL_dec
  obtain ⟨r, hr⟩ : ∃ r, decide (a = b) = r := ⟨_, rfl⟩
  obtain ⟨x, hx⟩ : ∃ r, ltL a b = r := ⟨_, rfl⟩
  obtain ⟨y, hy⟩ : ∃ r, ltL b a = r := ⟨_, rfl⟩
  rw [hr] at HE ⊢
  rw [hx] at HE L1
  rw [hy] at HE L2
  clear ha hb hr hx hy
  cases x
  · have HE : Hid ((!y) = r) := Lib.hid (by have := HE.out; simpa using this)
    go_enter Tryz.func17, Tryz.ntmps17
    go_wp2_with (first | (go_at_call 41; ((with_reducible refine L1.out.mono ?_); rintro _ w1 ⟨rfl, hb1⟩)) | (go_at_call 41; ((with_reducible refine (L2.out _ hb1).mono ?_); rintro _ w2 ⟨rfl, hb2⟩)))
    go_ret
    exact ⟨ret_bb (by first | exact HE.out | simpa using HE.out), bel2' hb1 hb2⟩
  · have HE : Hid (false = r) := Lib.hid (by have := HE.out; simpa using this)
    go_enter Tryz.func17, Tryz.ntmps17
    go_wp2_with (first | (go_at_call 41; ((with_reducible refine L1.out.mono ?_); rintro _ w1 ⟨rfl, hb1⟩)))
    go_ret
    exact ⟨ret_bb HE.out, hb1⟩

end Go.Proofs.YtbnhgmikegdppaaGreat

/- slices.Compare and pile.isBallot. -/
namespace Go.Proofs.YtbnhgmikegdppaaGreat
open Go.RowKit Go.Proofs.Kit Go.Proofs.Nums

set_option maxHeartbeats 1000000 in
theorem isnan_c (x : Int) (w : World) : Calls Tryz.prog 95 #[.int .i64 x] w fun e w' => e = .returned (.bool false) ∧ w = w' := by
  have q1 : (x == x) = true := by simp
  have q2 : (x != x) = false := by simp
  go_enter Tryz.func95, Tryz.ntmps95
  go_wp2_with fail
  go_ret
  exact ⟨by simp, rfl⟩

/-- cmp.Compare. -/
def cmpI (x y : Int) : Int := if x < y then -1 else if y < x then 1 else 0
set_option maxHeartbeats 1000000 in
theorem cmpint_c (x y : Int) (w : World) : Calls Tryz.prog 83 #[.int .i64 x, .int .i64 y] w fun e w' => e = .returned (.int .i64 (cmpI x y)) ∧ w = w' := by
  have N1 := Lib.hid (isnan_c x w)
  have N2 := Lib.hid (isnan_c y w)
  obtain ⟨z, hz⟩ : ∃ z, cmpI x y = z := ⟨_, rfl⟩
  have HZ := Lib.hid hz
  rw [hz]
  clear hz
  rcases Int.lt_trichotomy x y with h | h | h
  · have HX : Hid ((-1 : Int) = z) := Lib.hid (by rw [← HZ.out]; unfold cmpI; rw [if_pos h])
    go_enter Tryz.func83, Tryz.ntmps83
    go_wp2_with (first | (go_at_call 95; ((with_reducible refine N1.out.mono ?_); rintro _ _ ⟨rfl, rfl⟩)) | (go_at_call 95; ((with_reducible refine N2.out.mono ?_); rintro _ _ ⟨rfl, rfl⟩)))
    go_ret
    exact ⟨ret_ii HX.out, rfl⟩
  · have HX : Hid ((0 : Int) = z) := Lib.hid (by rw [← HZ.out]; unfold cmpI; rw [if_neg (by omega), if_neg (by omega)])
    have h1 : ¬ x < y := by omega
    have h2 : ¬ y < x := by omega
    clear h
    go_enter Tryz.func83, Tryz.ntmps83
    go_wp2_with (first | (go_at_call 95; ((with_reducible refine N1.out.mono ?_); rintro _ _ ⟨rfl, rfl⟩)) | (go_at_call 95; ((with_reducible refine N2.out.mono ?_); rintro _ _ ⟨rfl, rfl⟩)))
    go_ret
    exact ⟨ret_ii HX.out, rfl⟩
  · have HX : Hid ((1 : Int) = z) := Lib.hid (by rw [← HZ.out]; unfold cmpI; rw [if_neg (by omega), if_pos h])
    have h1 : ¬ x < y := by omega
    go_enter Tryz.func83, Tryz.ntmps83
    go_wp2_with (first | (go_at_call 95; ((with_reducible refine N1.out.mono ?_); rintro _ _ ⟨rfl, rfl⟩)) | (go_at_call 95; ((with_reducible refine N2.out.mono ?_); rintro _ _ ⟨rfl, rfl⟩)))
    go_ret
    exact ⟨ret_ii HX.out, rfl⟩

set_option maxHeartbeats 2000000 in
theorem compareL_c {va vb : Value} {a b : List Int} {w : World} (ha : IntsAt w va a) (hb : IntsAt w vb b) :
    Calls Tryz.prog 67 #[va, vb] w fun e w' => e = .returned (.int .i64 (cmpL a b)) ∧ w = w' := by
  have HA := Lib.hid ha
  have HB := Lib.hid hb
  have CC := Lib.hid (fun x y => cmpint_c x y w)
  have ham := ha.len
  have hbm := hb.len
  obtain ⟨p, c, rfl⟩ := ha.shape
  obtain ⟨p', c', rfl⟩ := hb.shape
  obtain ⟨na, hna⟩ : ∃ n, a.length = n := ⟨_, rfl⟩
  obtain ⟨nb, hnb⟩ : ∃ n, b.length = n := ⟨_, rfl⟩
  have LA := Lib.hid hna
  have LB := Lib.hid hnb
  obtain ⟨r, hr⟩ : ∃ r, cmpL a b = r := ⟨_, rfl⟩
  have HR := Lib.hid hr
  rw [hr]
  rw [hna] at ham HA ⊢
  rw [hnb] at hbm HB ⊢
  clear ha hb hna hnb hr
  go_enter Tryz.func67, Tryz.ntmps67
  go_wp2_with fail
  go_loopw [11] (fun iv wr => ∃ k : Nat, k ≤ na ∧ k ≤ nb ∧ iv = .int .i64 k ∧ wr = w ∧ Hid (a.take k = b.take k)) (fun iv _ => na - (intOf iv).toNat)
  case atStart => exact ⟨0, by omega, by omega, rfl, rfl, Lib.hid rfl⟩
  case round =>
    obtain ⟨k, hka, hkb, rfl, rfl, hP⟩ := hrel
    by_cases h1 : k < na
    · have z1 : (k : Int) < (na : Int) := by omega
      by_cases h2 : k < nb
      · have z2 : (k : Int) < (nb : Int) := by omega
        have z3 : ¬ (nb : Int) ≤ (k : Int) := by omega
        obtain ⟨b1, o1, e1, i1, i2, hc1⟩ := HA.out.cellAt k (by rw [LA.out]; exact h1)
        obtain ⟨b2, o2, e2, j1, j2, hc2⟩ := HB.out.cellAt k (by rw [LB.out]; exact h2)
        subst e1; subst e2
        obtain ⟨x, hx⟩ : ∃ x, a.getD k 0 = x := ⟨_, rfl⟩
        obtain ⟨y, hy⟩ : ∃ y, b.getD k 0 = y := ⟨_, rfl⟩
        rw [hx] at hc1
        rw [hy] at hc2
        have C := CC.out x y
        obtain ⟨z, hz⟩ : ∃ z, cmpI x y = z := ⟨_, rfl⟩
        rw [hz] at C
        have C := Lib.hid C
        by_cases hxy : x = y
        · have HX : Hid (a.take (k + 1) = b.take (k + 1)) := Lib.hid (take_same (by rw [LA.out]; exact h1) (by rw [LB.out]; exact h2) hP.out (by rw [hx, hy, hxy]))
          have hz0 : z = 0 := by rw [← hz, hxy]; unfold cmpI; rw [if_neg (by omega), if_neg (by omega)]
          subst hz0
          clear hx hy hxy hz
          go_wp2_with (go_at_call 83; ((with_reducible refine C.out.mono ?_); rintro _ _ ⟨rfl, rfl⟩))
          go_roundw
          case rel => exact ⟨k + 1, by omega, by omega, by go_num, by trivial, HX⟩
          case measure => simp [intOf] <;> omega
        · have HX : Hid (z = r) := Lib.hid (by
            rw [← HR.out, ← hz]
            unfold cmpL cmpI
            rw [lt_at (by rw [LA.out]; exact h1) (by rw [LB.out]; exact h2) hP.out (by rw [hx, hy]; exact hxy), lt_at (a := b) (by rw [LB.out]; exact h2) (by rw [LA.out]; exact h1) hP.out.symm (by rw [hx, hy]; exact Ne.symm hxy), hx, hy]
            simp only [decide_eq_true_iff])
          have hz0 : z ≠ 0 := by
            rw [← hz]; unfold cmpI
            split
            · omega
            · split <;> omega
          have q1 : (z == 0) = false := by rw [beq_eq_false_iff_ne]; exact hz0
          have q2 : (z != 0) = true := by simpa using hz0
          clear hx hy hxy hz
          go_wp2_with (go_at_call 83; ((with_reducible refine C.out.mono ?_); rintro _ _ ⟨rfl, rfl⟩))
          go_ret
          exact ⟨ret_ii HX.out, rfl⟩
      · have z2 : ¬ (k : Int) < (nb : Int) := by omega
        have z3 : (nb : Int) ≤ (k : Int) := by omega
        obtain ⟨b1, o1, e1, i1, i2, hc1⟩ := HA.out.cellAt k (by rw [LA.out]; exact h1)
        subst e1
        have HX : Hid ((1 : Int) = r) := Lib.hid (by
          rw [← HR.out]
          unfold cmpL
          rw [lt_end (by rw [LA.out]; omega) (by rw [LB.out]; omega) hP.out (.inr (by rw [LB.out]; omega)), lt_end (a := b) (by rw [LB.out]; omega) (by rw [LA.out]; omega) hP.out.symm (.inl (by rw [LB.out]; omega)), LA.out, LB.out, if_neg (by simp; omega), if_pos (by simp; omega)])
        go_wp2_with fail
        go_ret
        exact ⟨ret_ii HX.out, rfl⟩
    · have z1 : ¬ (k : Int) < (na : Int) := by omega
      by_cases h2 : (na : Int) < (nb : Int)
      · have HX : Hid ((-1 : Int) = r) := Lib.hid (by
          rw [← HR.out]
          unfold cmpL
          rw [lt_end (by rw [LA.out]; omega) (by rw [LB.out]; omega) hP.out (.inl (by rw [LA.out]; omega)), LA.out, LB.out, if_pos (by simp; omega)])
        go_wp2_with fail
        go_ret
        exact ⟨ret_ii HX.out, rfl⟩
      · have HX : Hid ((0 : Int) = r) := Lib.hid (by
          rw [← HR.out]
          unfold cmpL
          rw [lt_end (by rw [LA.out]; omega) (by rw [LB.out]; omega) hP.out (.inl (by rw [LA.out]; omega)), lt_end (a := b) (by rw [LB.out]; omega) (by rw [LA.out]; omega) hP.out.symm (.inr (by rw [LA.out]; omega)), LA.out, LB.out, if_neg (by simp; omega), if_neg (by simp; omega)])
        go_wp2_with fail
        go_ret
        exact ⟨ret_ii HX.out, rfl⟩

set_option maxRecDepth 100000 in
set_option maxHeartbeats 4000000 in
theorem isballot_c {v : Value} {l : List Int} {w : World} (hv : IntsAt w v l) (n : Nat) (h7 : n ≤ 7) :
    Calls Tryz.prog 66 #[.int .i64 n, v] w fun e w' => e = .returned (.bool (balS n l)) ∧ Below w.heap.size w w' := by
  have H := Lib.hid hv
  have hlm := hv.len
  obtain ⟨p, c, rfl⟩ := hv.shape
  obtain ⟨len, hlen⟩ : ∃ n, l.length = n := ⟨_, rfl⟩
  have HN := Lib.hid hlen
  rw [hlen] at hlm H ⊢
  clear hv hlen
  obtain ⟨r, hr⟩ : ∃ r, balS n l = r := ⟨_, rfl⟩
  rw [hr]
  have HRT : Hid (BalP n l → r = true) := Lib.hid (fun h => by rw [← hr]; unfold balS; exact decide_eq_true h)
  have HRF : Hid (¬ BalP n l → r = false) := Lib.hid (fun h => by rw [← hr]; unfold balS; exact decide_eq_false h)
  clear hr
  obtain ⟨W, hW⟩ : ∃ W, w.alloc (.cells #[.bool false, .bool false, .bool false, .bool false, .bool false, .bool false, .bool false] 112) = W := ⟨_, rfl⟩
  have hBW : Below w.heap.size w W := by rw [← hW]; exact (Below.refl _ _).alloc (Nat.le_refl _) _
  have A0 : Hid (Blk w.heap.size (seenA []) W) := Lib.hid (by rw [← hW]; exact Blk.new w _ _)
  go_enter Tryz.func66, Tryz.ntmps66
  go_wp2_with fail
  go_loopw [10] (fun iv wr => ∃ k : Nat, k ≤ len ∧ iv = .int .i64 k ∧ Below w.heap.size w wr ∧ Hid (Blk w.heap.size (seenA (l.take k)) wr) ∧ Hid (BalP n (l.take k))) (fun iv _ => len - (intOf iv).toNat)
  case atStart => exact ⟨0, by omega, rfl, hBW, A0, Lib.hid ⟨fun c hc => by simp at hc, by simp⟩⟩
  case round =>
    obtain ⟨k, hk, rfl, hbel, hB, hP⟩ := hrel
    by_cases hlt : k < len
    · have hltz : (k : Int) < (len : Int) := by omega
      obtain ⟨bb, off, hp0, hc1, hc2, hcell⟩ := (H.out.keep hbel).cellAt k (by rw [HN.out]; exact hlt)
      subst hp0
      obtain ⟨y, hy⟩ : ∃ y, l.getD k 0 = y := ⟨_, rfl⟩
      rw [hy] at hcell
      have HY := Lib.hid hy
      by_cases y0 : y < 0
      · have HX : Hid (r = false) := Lib.hid (HRF.out (bal_no_range (by rw [HN.out]; exact hlt) HY.out (by omega)))
        have e0 : decide (y < 0) = true := decide_eq_true y0
        clear hy
        go_wp2_with fail
        go_ret
        exact ⟨ret_bb HX.out.symm, hbel⟩
      have e0 : decide (y < 0) = false := decide_eq_false y0
      by_cases y1 : (n : Int) ≤ y
      · have HX : Hid (r = false) := Lib.hid (HRF.out (bal_no_range (by rw [HN.out]; exact hlt) HY.out (by omega)))
        have e1 : decide ((n : Int) ≤ y) = true := decide_eq_true y1
        clear hy
        go_wp2_with fail
        go_ret
        exact ⟨ret_bb HX.out.symm, hbel⟩
      have e1 : decide ((n : Int) ≤ y) = false := decide_eq_false y1
      obtain ⟨yn, hyn⟩ : ∃ j : Nat, y = j := ⟨y.toNat, by omega⟩
      subst hyn
      have hy7 : yn < 7 := by omega
      have hy7z : (yn : Int) < 7 := by omega
      have hs := (hB.out.2.1 yn).trans (seenA_at _ hy7)
      have hfr := hB.out.2.2 yn
      have hts := take_snoc_i (l := l) (k := k) (by rw [HN.out]; exact hlt)
      rw [hy] at hts
      have HB2 : Hid (Blk w.heap.size (seenA (l.take (k + 1))) (wr.setCell ⟨w.heap.size, yn, none⟩ (.bool true))) := Lib.hid (by rw [hts]; exact seenA_put hB.out hy7)
      clear hts
      cases hb : hasB (l.take k) yn
      · rw [hb] at hs
        have HX := Lib.hid (BalP.snoc (by rw [HN.out]; exact hlt) HY.out hP.out (by omega) (by omega) hb)
        clear hy hb
        go_wp2_with fail
        go_roundw
        case rel => exact ⟨k + 1, by omega, by go_num, hbel.setCell (Nat.le_refl _) _, HB2, HX⟩
        case measure => simp [intOf] <;> omega
      · rw [hb] at hs
        have HX : Hid (r = false) := Lib.hid (HRF.out (bal_no_dup (by rw [HN.out]; exact hlt) HY.out hb))
        clear hy hb
        go_wp2_with fail
        go_ret
        exact ⟨ret_bb HX.out.symm, hbel⟩
    · have hltz : ¬ (k : Int) < (len : Int) := by omega
      have HX : Hid (r = true) := Lib.hid (HRT.out (by have := hP.out; rwa [List.take_of_length_le (by rw [HN.out]; omega)] at this))
      go_wp2_with fail
      go_ret
      exact ⟨ret_bb HX.out.symm, hbel⟩

end Go.Proofs.YtbnhgmikegdppaaGreat

/- Groups of equal ballots; pile.isPile. -/
namespace Go.Proofs.Nums

theorem ltL_tr {a b c : List Int} (h : ltL a b = true) (g : ltL b c = true) : ltL a c = true := by
  induction a generalizing b c with
  | nil =>
    cases b with
    | nil => simp [ltL] at h
    | cons y b =>
      cases c with
      | nil => simp [ltL] at g
      | cons z c => rfl
  | cons x a ih =>
    cases b with
    | nil => simp [ltL] at h
    | cons y b =>
      cases c with
      | nil => simp [ltL] at g
      | cons z c =>
        unfold ltL at h g ⊢
        by_cases e : x = y
        · subst e
          rw [if_pos rfl] at h
          by_cases f : x = z
          · subst f
            rw [if_pos rfl] at g ⊢
            exact ih h g
          · rw [if_neg f] at g ⊢; exact g
        · rw [if_neg e, decide_eq_true_iff] at h
          by_cases f : y = z
          · subst f
            rw [if_neg e, decide_eq_true_iff]; exact h
          · rw [if_neg f, decide_eq_true_iff] at g
            rw [if_neg (by omega), decide_eq_true_iff]; omega
def totS (gs : List Grp) : Int := sumF (fun _ => true) gs
/-- A pile for n candidates. -/
structure PileP (n : Int) (gs : List Grp) : Prop where
  bal : ∀ g ∈ gs, BalP n g.p
  pos : PosG gs
  tot : totS gs ≤ 100000
  srt : gs.Pairwise fun a b => ltL a.p b.p = true
noncomputable def pileS (n : Int) (gs : List Grp) : Bool := @decide (PileP n gs) (Classical.propDecidable _)
theorem pile_true {n : Int} {gs : List Grp} : pileS n gs = true ↔ PileP n gs := by unfold pileS; exact @decide_eq_true_iff _ (Classical.propDecidable _)
theorem pile_false {n : Int} {gs : List Grp} (h : ¬ PileP n gs) : pileS n gs = false := by unfold pileS; exact @decide_eq_false _ (Classical.propDecidable _) h
def g0 : Grp := ⟨[], 0⟩
theorem take_snoc_g {l : List Grp} {k : Nat} (h : k < l.length) : l.take (k + 1) = l.take k ++ [l.getD k g0] := by
  rw [List.take_add_one, List.getElem?_eq_getElem h, List.getD_eq_getElem?_getD, List.getElem?_eq_getElem h]
  rfl
theorem tot_snoc (gs : List Grp) (g : Grp) : totS (gs ++ [g]) = totS gs + g.n := by unfold totS; rw [sumF_snoc, if_pos rfl]
theorem PileP.nil (n : Int) : PileP n [] := ⟨fun g h => by simp at h, fun g h => by simp at h, by unfold totS; rw [sumF_nil]; omega, List.Pairwise.nil⟩
theorem PileP.snoc {n : Int} {gs : List Grp} {k : Nat} {g : Grp} (h : k < gs.length) (hg : gs.getD k g0 = g) (hp : PileP n (gs.take k)) (h1 : BalP n g.p) (h2 : 1 ≤ g.n) (h3 : totS (gs.take k) + g.n ≤ 100000) (h4 : 0 < k → ltL (gs.getD (k - 1) g0).p g.p = true) : PileP n (gs.take (k + 1)) := by
  rw [take_snoc_g h, hg]
  refine ⟨fun x hx => ?_, fun x hx => ?_, by rw [tot_snoc]; exact h3, ?_⟩
  · rcases List.mem_append.1 hx with e | e
    · exact hp.bal x e
    · rw [List.mem_singleton.1 e]; exact h1
  · rcases List.mem_append.1 hx with e | e
    · exact hp.pos x e
    · rw [List.mem_singleton.1 e]; exact h2
  · rw [List.pairwise_append]
    refine ⟨hp.srt, by simp, fun a ha b hb => ?_⟩
    rw [List.mem_singleton.1 hb]
    cases k with
    | zero => simp at ha
    | succ k =>
      have h4 := h4 (by omega)
      rw [Nat.add_sub_cancel] at h4
      have hs := hp.srt
      rw [take_snoc_g (by omega)] at ha hs
      rcases List.mem_append.1 ha with e | e
      · exact ltL_tr ((List.pairwise_append.1 hs).2.2 a e _ (by simp)) h4
      · rw [List.mem_singleton.1 e]; exact h4
theorem mem_getG {l : List Grp} {k : Nat} {x : Grp} (h : k < l.length) (h2 : l.getD k g0 = x) : x ∈ l := by
  rw [List.getD_eq_getElem?_getD, List.getElem?_eq_getElem h] at h2
  rw [← h2]
  exact List.getElem_mem h
theorem pile_no_bal {n : Int} {gs : List Grp} {k : Nat} {g : Grp} (h : k < gs.length) (hg : gs.getD k g0 = g) (h1 : ¬ BalP n g.p) : ¬ PileP n gs := fun hp => h1 (hp.bal g (mem_getG h hg))
theorem pile_no_pos {n : Int} {gs : List Grp} {k : Nat} {g : Grp} (h : k < gs.length) (hg : gs.getD k g0 = g) (h1 : g.n < 1) : ¬ PileP n gs := fun hp => by have := hp.pos g (mem_getG h hg); omega
theorem pile_no_tot {n : Int} {gs : List Grp} {k : Nat} {g : Grp} (h : k < gs.length) (hg : gs.getD k g0 = g) (h1 : 100000 - totS (gs.take k) < g.n) : ¬ PileP n gs := fun hp => by
  have e : gs = gs.take (k + 1) ++ gs.drop (k + 1) := (List.take_append_drop _ _).symm
  have ht := hp.tot
  have hd : 0 ≤ totS (gs.drop (k + 1)) := sumF_nn fun x hx => hp.pos x (List.mem_of_mem_drop hx)
  rw [e] at ht
  have : totS (gs.take (k + 1) ++ gs.drop (k + 1)) = totS (gs.take (k + 1)) + totS (gs.drop (k + 1)) := by
    unfold totS sumF
    rw [List.map_append, List.sum_append]
  rw [this, take_snoc_g h, hg, tot_snoc] at ht
  omega
theorem pile_no_srt {n : Int} {gs : List Grp} {k : Nat} {a b : Grp} (h : k + 1 < gs.length) (ha : gs.getD k g0 = a) (hb : gs.getD (k + 1) g0 = b) (h1 : ltL a.p b.p = false) : ¬ PileP n gs := fun hp => by
  have := List.pairwise_iff_getElem.1 hp.srt k (k + 1) (by omega) h (by omega)
  rw [List.getD_eq_getElem?_getD, List.getElem?_eq_getElem (by omega)] at ha
  rw [List.getD_eq_getElem?_getD, List.getElem?_eq_getElem h] at hb
  simp only [Option.getD_some] at ha hb
  rw [ha, hb, h1] at this
  simp at this
theorem tot_bd {n : Int} {gs : List Grp} (h : PileP n gs) : 0 ≤ totS gs := sumF_nn h.pos

end Go.Proofs.Nums
namespace Go.Proofs.YtbnhgmikegdppaaGreat
open Go.RowKit Go.Proofs.Kit Go.Proofs.Nums

/-- The two cells of a group. -/
def groupR (w : World) (c : List Value) (g : Grp) : Prop := ∃ u, c = [u, .int .i64 g.n] ∧ IntsAt w u g.p
theorem groupR.keep {w w' : World} {c : List Value} {g : Grp} (h : groupR w c g) (hb : Below w.heap.size w w') : groupR w' c g := by
  obtain ⟨u, h1, h2⟩ := h
  exact ⟨u, h1, h2.keep hb⟩
def PileAt (w : World) (v : Value) (gs : List Grp) : Prop := SliceOf groupR 2 w v gs
theorem PileAt.keep {w w' : World} {v : Value} {gs : List Grp} (h : PileAt w v gs) (hb : Below w.heap.size w w') : PileAt w' v gs := SliceOf.keep h hb fun _ _ g => g.keep hb
theorem PileAt.shp {w : World} {v : Value} {gs : List Grp} (h : PileAt w v gs) : ∃ p c, v = .slice p gs.length c := by
  obtain ⟨p, c, h, _⟩ := SliceOf.shape h
  exact ⟨p, c, h⟩
theorem PileAt.cellAt {w : World} {p : Option Addr} {n c : Nat} {gs : List Grp} (h : PileAt w (.slice p n c) gs) {k : Nat} (hk : k < gs.length) {g : Grp} (hg : gs.getD k g0 = g) :
    ∃ b off q m d, p = some ⟨b, off, none⟩ ∧ gs.length ≤ c ∧ c ≤ 9223372036854775807 ∧ w.cell? ⟨b, off + k * 2, none⟩ = some (.slice q m d) ∧ w.cell? ⟨b, off + k * 2 + 1, none⟩ = some (.int .i64 g.n) ∧ IntsAt w (.slice q m d) g.p ∧ m = g.p.length := by
  obtain ⟨b, off, cap, cs, hv, h1, h2, h3, h4, h5⟩ := SliceOf.at_ (by omega) h hk
  simp only [Value.slice.injEq] at hv
  obtain ⟨rfl, _, rfl⟩ := hv
  have e : gs[k] = g := by
    rw [List.getD_eq_getElem?_getD, List.getElem?_eq_getElem hk] at hg
    exact hg
  rw [e] at h4
  obtain ⟨u, rfl, hu⟩ := h4
  obtain ⟨q, d, rfl⟩ := hu.shape
  exact ⟨b, off, q, _, d, rfl, h1, h2, h5 0 _ rfl, h5 1 _ rfl, hu, rfl⟩

set_option maxRecDepth 100000 in
set_option maxHeartbeats 4000000 in
theorem ispile_c {v : Value} {gs : List Grp} {w : World} (hv : PileAt w v gs) (n : Nat) (h7 : n ≤ 7) :
    Calls Tryz.prog 46 #[.int .i64 n, v] w fun e w' => e = .returned (.bool (pileS n gs)) ∧ Below w.heap.size w w' := by
  have H := Lib.hid hv
  have hlm := SliceOf.len hv
  obtain ⟨p, c, rfl⟩ := hv.shp
  obtain ⟨len, hlen⟩ : ∃ n, gs.length = n := ⟨_, rfl⟩
  have HN := Lib.hid hlen
  rw [hlen] at hlm H ⊢
  clear hv hlen
  obtain ⟨r, hr⟩ : ∃ r, pileS n gs = r := ⟨_, rfl⟩
  rw [hr]
  have HRT : Hid (PileP n gs → r = true) := Lib.hid (fun h => by rw [← hr]; exact pile_true.2 h)
  have HRF : Hid (¬ PileP n gs → r = false) := Lib.hid (fun h => by rw [← hr]; exact pile_false h)
  clear hr
  go_enter Tryz.func46, Tryz.ntmps46
  go_wp2_with fail
  go_loopw [5, 10] (fun sv iv wr => ∃ k : Nat, ∃ s : Int, k ≤ len ∧ iv = .int .i64 k ∧ sv = .int .i64 s ∧ Below w.heap.size w wr ∧ Hid (s = totS (gs.take k)) ∧ Hid (PileP n (gs.take k)) ∧ 0 ≤ s ∧ s ≤ 100000) (fun _ iv _ => len - (intOf iv).toNat)
  case atStart => exact ⟨0, 0, by omega, rfl, rfl, Below.refl _ _, Lib.hid rfl, Lib.hid (PileP.nil _), by omega, by omega⟩
  case round =>
    obtain ⟨k, s, hk, rfl, rfl, hbel, hS, hP, s0, s1⟩ := hrel
    by_cases hlt : k < len
    · have hltz : (k : Int) < (len : Int) := by omega
      obtain ⟨g, hg⟩ : ∃ g, gs.getD k g0 = g := ⟨_, rfl⟩
      obtain ⟨bb, off, q, m, d, hp0, hc1, hc2, cl0, cl1, HI, hm⟩ := (H.out.keep hbel).cellAt (by rw [HN.out]; exact hlt) hg
      subst hp0
      obtain ⟨y, hy⟩ : ∃ y, g.n = y := ⟨_, rfl⟩
      rw [hy] at cl1
      have HI := Lib.hid HI
      have HM := Lib.hid hm
      have HG := Lib.hid hg
      have HY := Lib.hid hy
      clear hm hg hy
      have hbA : Below w.heap.size w (wr.alloc (.cells #[.slice q m d, .int .i64 y] 56)) := hbel.alloc hbel.size _
      by_cases y0 : y < 1
      · have HX : Hid (r = false) := Lib.hid (HRF.out (pile_no_pos (by rw [HN.out]; exact hlt) HG.out (by rw [HY.out]; exact y0)))
        have e0 : decide (y < 1) = true := decide_eq_true y0
        go_wp2_with fail
        go_ret
        exact ⟨ret_bb HX.out.symm, hbA⟩
      have e0 : decide (y < 1) = false := decide_eq_false y0
      have hw1 : IntKind.i64.wrap (100000 - s) = 100000 - s := w64 (by omega) (by omega)
      by_cases y1 : 100000 - s < y
      · have HX : Hid (r = false) := Lib.hid (HRF.out (pile_no_tot (by rw [HN.out]; exact hlt) HG.out (by rw [HY.out, ← hS.out]; exact y1)))
        have e1 : decide (100000 - s < y) = true := decide_eq_true y1
        go_wp2_with fail
        go_ret
        exact ⟨ret_bb HX.out.symm, hbA⟩
      have e1 : decide (100000 - s < y) = false := decide_eq_false y1
      have hbl : Below wr.heap.size wr (wr.alloc (.cells #[.slice q m d, .int .i64 y] 56)) := (Below.refl _ _).alloc (Nat.le_refl _) _
      have KB := Blk.new wr #[.slice q m d, .int .i64 y] 56
      have BC := isballot_c (HI.out.keep hbl) n h7
      obtain ⟨X, hX⟩ : ∃ X, wr.alloc (.cells #[.slice q m d, .int .i64 y] 56) = X := ⟨_, rfl⟩
      rw [hX] at hbA hbl KB BC
      have x0 : X.cell? ⟨wr.heap.size, 0, none⟩ = some (.slice q m d) := KB.2.1 0
      have x1 : X.cell? ⟨wr.heap.size, 1, none⟩ = some (.int .i64 y) := KB.2.1 1
      have hws : IntKind.i64.wrap (s + y) = s + y := w64 (by omega) (by omega)
      by_cases hbal : BalP n g.p
      · have hbt : balS n g.p = true := decide_eq_true hbal
        rw [hbt] at BC
        have BC := Lib.hid BC
        have KB := Lib.hid KB
        clear hbt
        cases k with
        | zero =>
          have HX : Hid (PileP n (gs.take (0 + 1))) := Lib.hid (hP.out.snoc (by rw [HN.out]; exact hlt) HG.out hbal (by rw [HY.out]; omega) (by rw [HY.out, ← hS.out]; omega) (fun h => by omega))
          have HS : Hid (s + y = totS (gs.take (0 + 1))) := Lib.hid (by rw [take_snoc_g (by rw [HN.out]; exact hlt), HG.out, tot_snoc, HY.out, hS.out])
          simp only [Nat.zero_mul, Nat.add_zero] at cl0 cl1
          clear hbal
          go_wp2_with (go_at_call 66; ((with_reducible refine BC.out.mono ?_); rintro _ w1 ⟨rfl, hb1⟩; obtain ⟨z0, z1⟩ := (show w1.cell? ⟨wr.heap.size, 0, none⟩ = some (.slice q m d) ∧ w1.cell? ⟨wr.heap.size, 1, none⟩ = some (.int .i64 y) from ⟨(KB.out.keep hb1).2.1 0, (KB.out.keep hb1).2.1 1⟩); have hB1 := bel2' hbA hb1))
          go_quiet (fail)
          all_goals
            go_wp2_with fail
            go_roundw
            case rel => exact ⟨0 + 1, s + y, by omega, by go_num, rfl, below_drewN hB1 _, HS, HX, by omega, by omega⟩
            case measure => simp [intOf] <;> omega
        | succ k =>
          obtain ⟨a, ha⟩ : ∃ g, gs.getD k g0 = g := ⟨_, rfl⟩
          obtain ⟨bb2, off2, q2, m2, d2, hp2, _, _, cm0, _, HI2, hm2⟩ := (H.out.keep hbel).cellAt (by rw [HN.out]; omega) ha
          simp only [Option.some.injEq, Addr.mk.injEq, and_true] at hp2
          obtain ⟨rfl, rfl⟩ := hp2
          have kz : (0 : Int) < ((k + 1 : Nat) : Int) := by omega
          have kz' : (0 : Int) < (k : Int) + 1 := by omega
          have HAq := Lib.hid ha
          have HAL := Lib.hid (fun w1 (hb1 : Below X.heap.size X w1) => bel2' hbl hb1)
          have CM := Lib.hid (fun w1 (hb : Below wr.heap.size wr w1) => compareL_c (HI2.keep hb) (HI.out.keep hb))
          have CE : Hid (wr.cell? ⟨bb, off + k * 2, none⟩ = some (.slice q2 m2 d2)) := Lib.hid cm0
          have hge := cmpL_ge (a := a.p) (b := g.p)
          obtain ⟨z, hz⟩ : ∃ z, cmpL a.p g.p = z := ⟨_, rfl⟩
          rw [hz] at hge
          have CM : Hid (∀ w1, Below wr.heap.size wr w1 → Calls Tryz.prog 67 #[.slice q2 m2 d2, .slice q m d] w1 fun e w' => e = .returned (.int .i64 z) ∧ w' = w1) := Lib.hid (fun w1 hb => (CM.out w1 hb).mono fun _ _ ⟨h1, h2⟩ => ⟨by rw [h1, hz], h2.symm⟩)
          clear ha hz HI2 hm2
          cases hl : ltL a.p g.p
          · have HX : Hid (r = false) := Lib.hid (HRF.out (pile_no_srt (by rw [HN.out]; exact hlt) HAq.out HG.out hl))
            rw [hl] at hge
            have hge : decide (0 ≤ z) = true := hge
            clear hl hbal
            go_wp2_with (go_at_call 66; ((with_reducible refine BC.out.mono ?_); rintro _ w1 ⟨rfl, hb1⟩; obtain ⟨z0, z1⟩ := (show w1.cell? ⟨wr.heap.size, 0, none⟩ = some (.slice q m d) ∧ w1.cell? ⟨wr.heap.size, 1, none⟩ = some (.int .i64 y) from ⟨(KB.out.keep hb1).2.1 0, (KB.out.keep hb1).2.1 1⟩); have hB1 := bel2' hbA hb1; have hB2 := HAL.out w1 hb1; have y0 := cell_keep hB2 CE.out; have CQ := Lib.hid (fun q => CM.out (w1.drewN q) (below_drewN hB2 q))))
            go_quiet ((go_at_call 67; exact Calls.quiet_of_same (CQ.out _)))
            all_goals
              go_wp2_with fail
              go_ret
              exact ⟨ret_bb HX.out.symm, below_drewN hB1 _⟩
          · have HX : Hid (PileP n (gs.take (k + 1 + 1))) := Lib.hid (hP.out.snoc (by rw [HN.out]; exact hlt) HG.out hbal (by rw [HY.out]; omega) (by rw [HY.out, ← hS.out]; omega) (fun _ => by rw [Nat.add_sub_cancel, HAq.out]; exact hl))
            have HS : Hid (s + y = totS (gs.take (k + 1 + 1))) := Lib.hid (by rw [take_snoc_g (by rw [HN.out]; exact hlt), HG.out, tot_snoc, HY.out, hS.out])
            rw [hl] at hge
            have hge : decide (0 ≤ z) = false := hge
            clear hl hbal
            go_wp2_with (go_at_call 66; ((with_reducible refine BC.out.mono ?_); rintro _ w1 ⟨rfl, hb1⟩; obtain ⟨z0, z1⟩ := (show w1.cell? ⟨wr.heap.size, 0, none⟩ = some (.slice q m d) ∧ w1.cell? ⟨wr.heap.size, 1, none⟩ = some (.int .i64 y) from ⟨(KB.out.keep hb1).2.1 0, (KB.out.keep hb1).2.1 1⟩); have hB1 := bel2' hbA hb1; have hB2 := HAL.out w1 hb1; have y0 := cell_keep hB2 CE.out; have CQ := Lib.hid (fun q => CM.out (w1.drewN q) (below_drewN hB2 q))))
            go_quiet ((go_at_call 67; exact Calls.quiet_of_same (CQ.out _)))
            all_goals
              go_wp2_with fail
              go_roundw
              case rel => exact ⟨k + 1 + 1, s + y, by omega, by go_num, rfl, below_drewN hB1 _, HS, HX, by omega, by omega⟩
              case measure => simp [intOf] <;> omega
      · have hbf : balS n g.p = false := decide_eq_false hbal
        have HX : Hid (r = false) := Lib.hid (HRF.out (pile_no_bal (by rw [HN.out]; exact hlt) HG.out hbal))
        rw [hbf] at BC
        have BC := Lib.hid BC
        clear hbf hbal KB
        go_wp2_with (go_at_call 66; ((with_reducible refine BC.out.mono ?_); rintro _ w1 ⟨rfl, hb1⟩; have hB1 := bel2' hbA hb1))
        go_ret
        exact ⟨ret_bb HX.out.symm, hB1⟩
    · have hltz : ¬ (k : Int) < (len : Int) := by omega
      have HX : Hid (r = true) := Lib.hid (HRT.out (by have := hP.out; rwa [List.take_of_length_le (by rw [HN.out]; omega)] at this))
      go_wp2_with fail
      go_ret
      exact ⟨ret_bb HX.out.symm, hbel⟩

end Go.Proofs.YtbnhgmikegdppaaGreat

/- Runs of a count, plain. -/
namespace Go.Proofs.Nums

/-- Candidate c remains. -/
def remB (rem : List Bool) (c : Int) : Bool := decide (0 ≤ c) && rem.getD c.toNat false
theorem remB_lt {rem : List Bool} {c : Int} (h : remB rem c = true) : 0 ≤ c ∧ c < rem.length := by
  unfold remB at h
  rw [Bool.and_eq_true, decide_eq_true_iff] at h
  refine ⟨h.1, Classical.byContradiction fun g => ?_⟩
  have := h.2
  rw [List.getD_eq_getElem?_getD, List.getElem?_eq_none (by omega)] at this
  simp at this
def aliveS (rem : List Bool) : List Int := ((List.range rem.length).map fun i : Nat => (i : Int)).filter (remB rem)
theorem mem_alive {rem : List Bool} {c : Int} : c ∈ aliveS rem ↔ remB rem c = true := by
  unfold aliveS
  rw [List.mem_filter]
  refine ⟨fun h => h.2, fun h => ⟨?_, h⟩⟩
  have := remB_lt h
  exact List.mem_map.2 ⟨c.toNat, List.mem_range.2 (by omega), by omega⟩
theorem range_sorted (n : Nat) : ((List.range n).map fun i : Nat => (i : Int)).Pairwise (· < ·) := by
  rw [List.pairwise_map]
  exact List.pairwise_lt_range.imp fun h => by omega
theorem alive_sorted (rem : List Bool) : (aliveS rem).Pairwise (· < ·) := (range_sorted _).filter _
theorem sorted_nodup {l : List Int} (h : l.Pairwise (· < ·)) : l.Nodup := h.imp fun h => by omega
theorem alive_le (rem : List Bool) : (aliveS rem).length ≤ rem.length := by
  unfold aliveS
  exact Nat.le_trans (List.length_filter_le _ _) (by simp)
theorem alive_full (n : Nat) : aliveS (List.replicate n true) = (List.range n).map fun i : Nat => (i : Int) := by
  unfold aliveS
  rw [List.length_replicate, List.filter_eq_self]
  intro c hc
  obtain ⟨i, hi, rfl⟩ := List.mem_map.1 hc
  have hi := List.mem_range.1 hi
  unfold remB
  simp [hi]
theorem rem_full (n : Nat) : remB (List.replicate n true) = fun c => decide (0 ≤ c ∧ c < (n : Int)) := by
  funext c
  rw [Bool.eq_iff_iff, ← mem_alive, alive_full, decide_eq_true_iff]
  constructor
  · intro h
    obtain ⟨i, hi, rfl⟩ := List.mem_map.1 h
    have := List.mem_range.1 hi
    omega
  · intro h
    exact List.mem_map.2 ⟨c.toNat, List.mem_range.2 (by omega), by omega⟩
theorem rem_set {rem : List Bool} {x : Int} (hx : 0 ≤ x) : remB (rem.set x.toNat false) = fun d => remB rem d && decide (d ≠ x) := by
  funext d
  unfold remB
  by_cases h0 : 0 ≤ d
  · rw [List.getD_eq_getElem?_getD, List.getD_eq_getElem?_getD, List.getElem?_set]
    by_cases h : d = x
    · subst h
      simp
      split <;> simp
    · have : ¬ x.toNat = d.toNat := by omega
      simp [this, h]
  · simp [h0]
theorem filter_one {l : List Int} (hn : l.Nodup) {x : Int} (hx : x ∈ l) : (l.filter fun d => decide (d ≠ x)).length + 1 = l.length := by
  induction l with
  | nil => simp at hx
  | cons a l ih =>
    rw [List.nodup_cons] at hn
    rw [List.filter_cons]
    by_cases h : a = x
    · subst h
      have e : l.filter (fun d => decide (d ≠ a)) = l := List.filter_eq_self.2 fun y hy => by
        rw [decide_eq_true_iff]
        rintro rfl
        exact hn.1 hy
      simp only [ne_eq, not_true_eq_false, decide_false, Bool.false_eq_true, if_false]
      rw [e]; rfl
    · rw [if_pos (by simpa using h), List.length_cons, List.length_cons, ih hn.2 (by
        rcases List.mem_cons.1 hx with g | g
        · exact absurd g.symm h
        · exact g)]
theorem alive_set {rem : List Bool} {x : Int} (hx : x ∈ aliveS rem) : aliveS (rem.set x.toNat false) = (aliveS rem).filter fun d => decide (d ≠ x) := by
  have h0 := remB_lt (mem_alive.1 hx)
  unfold aliveS
  rw [List.length_set, rem_set h0.1, List.filter_filter]
  exact List.filter_congr fun c _ => Bool.and_comm _ _
theorem alive_less {rem : List Bool} {x : Int} (hx : x ∈ aliveS rem) : (aliveS (rem.set x.toNat false)).length + 1 = (aliveS rem).length := by
  rw [alive_set hx]; exact filter_one (sorted_nodup (alive_sorted _)) hx

def votesS (gs : List Grp) (rem : List Bool) : List Int := (List.range rem.length).map fun i : Nat => wt (remB rem) gs i
def restS (gs : List Grp) (rem : List Bool) : Int := wt (remB rem) gs (-1)
def ltW (gs : List Grp) (rem : List Bool) (a b : Int) : Bool := decide (wt (remB rem) gs a < wt (remB rem) gs b)
/-- The remaining candidates with the least votes. -/
def lowS (gs : List Grp) (rem : List Bool) : List Int := extA (ltW gs rem) (aliveS rem)
theorem mem_low {gs : List Grp} {rem : List Bool} {x : Int} : x ∈ lowS gs rem ↔ Low gs (remB rem) x := by
  unfold lowS Low ltW
  rw [mem_extA, mem_alive]
  refine and_congr Iff.rfl ⟨fun h d hd => ?_, fun h d hd => ?_⟩
  · have := h d (mem_alive.2 hd)
    rw [decide_eq_false_iff_not] at this
    omega
  · have := h d (mem_alive.1 hd)
    rw [decide_eq_false_iff_not]
    omega
theorem low_sub {gs : List Grp} {rem : List Bool} {x : Int} (h : x ∈ lowS gs rem) : x ∈ aliveS rem := (mem_extA.1 h).1
theorem low_sorted (gs : List Grp) (rem : List Bool) : (lowS gs rem).Pairwise (· < ·) := (alive_sorted rem).filter _
/-- There is a least one. -/
theorem least_of {f : Int → Int} : ∀ {l : List Int}, l ≠ [] → ∃ x ∈ l, ∀ d ∈ l, f x ≤ f d
  | [a], _ => ⟨a, by simp, fun d hd => by rw [List.mem_singleton.1 hd]; exact Int.le_refl _⟩
  | a :: b :: l, _ => by
    obtain ⟨x, hx, h⟩ := least_of (f := f) (l := b :: l) (by simp)
    by_cases g : f a ≤ f x
    · refine ⟨a, by simp, fun d hd => ?_⟩
      rcases List.mem_cons.1 hd with e | e
      · rw [e]; exact Int.le_refl _
      · exact Int.le_trans g (h d e)
    · refine ⟨x, List.mem_cons_of_mem _ hx, fun d hd => ?_⟩
      rcases List.mem_cons.1 hd with e | e
      · rw [e]; omega
      · exact h d e
theorem low_ne {gs : List Grp} {rem : List Bool} (h : aliveS rem ≠ []) : lowS gs rem ≠ [] := by
  obtain ⟨x, hx, hl⟩ := least_of (f := wt (remB rem) gs) h
  intro e
  have : x ∈ lowS gs rem := mem_low.2 ⟨mem_alive.1 hx, fun d hd => hl d (mem_alive.2 hd)⟩
  rw [e] at this
  simp at this
/-- The votes add up. -/
theorem sumF_split {f h e : List Int → Bool} {gs : List Grp} (hx : ∀ g ∈ gs, (e g.p = true ↔ f g.p = true ∨ h g.p = true) ∧ ¬ (f g.p = true ∧ h g.p = true)) : sumF e gs = sumF f gs + sumF h gs := by
  induction gs with
  | nil => rfl
  | cons g gs ih =>
    rw [sumF_cons, sumF_cons, sumF_cons, ih fun g hg => hx g (by simp [hg])]
    have := hx g (by simp)
    cases hf : f g.p <;> cases hh : h g.p <;> cases he : e g.p <;> simp [hf, hh, he] at this ⊢ <;> omega
theorem sum_to (R : Int → Bool) (gs : List Grp) (m : Nat) : ((List.range m).map fun i : Nat => wt R gs i).sum = sumF (fun p => decide (0 ≤ firstC R p ∧ firstC R p < (m : Int))) gs := by
  induction m with
  | zero =>
    have : sumF (fun p => decide (0 ≤ firstC R p ∧ firstC R p < ((0 : Nat) : Int))) gs = sumF (fun _ => false) gs := sumF_congr fun g _ => by
      rw [decide_eq_false_iff_not]; omega
    rw [this]
    clear this
    unfold sumF
    induction gs with
    | nil => rfl
    | cons g gs ih => simpa using ih
  | succ m ih =>
    rw [List.range_succ, List.map_append, List.sum_append, ih]
    simp only [List.map_cons, List.map_nil, List.sum_cons, List.sum_nil, Int.add_zero]
    refine (sumF_split fun g _ => ?_).symm
    simp only [decide_eq_true_iff]
    omega
/-- The ballots that are not exhausted. -/
def liveW (R : Int → Bool) (gs : List Grp) : Int := sumF (fun p => decide (0 ≤ firstC R p)) gs
theorem first_some {R : Int → Bool} {p : List Int} {c : Int} (h : firstC R p = c) (hc : c ≠ -1) : R c = true := by
  rw [first_iff hc] at h
  exact List.find?_some h
theorem votes_sum (gs : List Grp) (rem : List Bool) : (votesS gs rem).sum = liveW (remB rem) gs := by
  unfold votesS liveW
  rw [sum_to]
  refine sumF_congr fun g _ => ?_
  rw [decide_eq_decide]
  refine ⟨fun h => h.1, fun h => ⟨h, ?_⟩⟩
  exact (remB_lt (first_some rfl (by omega))).2
theorem first_ge {rem : List Bool} {p : List Int} : -1 ≤ firstC (remB rem) p := by
  by_cases h : firstC (remB rem) p = -1
  · omega
  · have := remB_lt (first_some rfl h); omega
theorem votes_rest (gs : List Grp) (rem : List Bool) : (votesS gs rem).sum + restS gs rem = sumF (fun _ => true) gs := by
  rw [votes_sum]
  unfold liveW restS wt
  refine (sumF_split fun g _ => ?_).symm
  have := first_ge (rem := rem) (p := g.p)
  rw [decide_eq_true_iff, decide_eq_true_iff]
  exact ⟨⟨fun _ => by omega, fun _ => rfl⟩, by omega⟩
theorem live_two {R : Int → Bool} {gs : List Grp} {c x : Int} (hp : PosG gs) (h1 : 0 ≤ c) (h2 : 0 ≤ x) (h : c ≠ x) : wt R gs c + wt R gs x ≤ liveW R gs := by
  refine sumF_two hp (fun g _ e => ?_) (fun g _ e => ?_) (fun g _ e1 e2 => ?_)
  · rw [decide_eq_true_iff] at e ⊢; omega
  · rw [decide_eq_true_iff] at e ⊢; omega
  · rw [decide_eq_true_iff] at e1 e2; omega
theorem live_mono {R R' : Int → Bool} {gs : List Grp} (hp : PosG gs) (hr : ∀ c, R c = true → 0 ≤ c) (hs : ∀ d, R' d = true → R d = true) : liveW R' gs ≤ liveW R gs := by
  refine sumF_le hp fun g _ h => ?_
  rw [decide_eq_true_iff] at h ⊢
  have h2 : firstC R' g.p ≠ -1 := by omega
  have h3 := (first_iff h2).1 rfl
  have h4 := hs _ (List.find?_some h3)
  cases h5 : g.p.find? R with
  | none =>
    have := (List.find?_eq_none.1 h5) _ (List.mem_of_find?_eq_some h3)
    exact absurd h4 this
  | some y =>
    have : firstC R g.p = y := by unfold firstC; rw [h5]; rfl
    rw [this]
    exact hr y (List.find?_some h5)

/-- Who is excluded. -/
def exclS (brk : List (List Int) → List Int → Int) (gs : List Grp) (rem : List Bool) (ear : List (List Int)) : Int :=
  if 1 < (lowS gs rem).length then brk ear (lowS gs rem) else (lowS gs rem).headD 0
/-- A tie among n is broken in favour of one of the tied. -/
def Brk (n : Nat) (brk : List (List Int) → List Int → Int) : Prop := ∀ ear t, t ≠ [] → (∀ c ∈ t, 0 ≤ c ∧ c < (n : Int)) → t.Pairwise (· < ·) → brk ear t ∈ t
theorem excl_low {brk : List (List Int) → List Int → Int} {gs : List Grp} {rem : List Bool} {ear : List (List Int)} (hb : Brk rem.length brk) (h : aliveS rem ≠ []) : exclS brk gs rem ear ∈ lowS gs rem := by
  have hne := low_ne (gs := gs) h
  unfold exclS
  split
  · exact hb _ _ hne (fun c hc => remB_lt (mem_alive.1 (low_sub hc))) (low_sorted _ _)
  · cases hl : lowS gs rem with
    | nil => exact absurd hl hne
    | cons a t => simp
/-- The order of exclusion; the last one is the winner. -/
def orderS (brk : List (List Int) → List Int → Int) (gs : List Grp) : Nat → List Bool → List (List Int) → List Int
  | 0, _, _ => []
  | k + 1, rem, ear => if 1 < (aliveS rem).length then exclS brk gs rem ear :: orderS brk gs k (rem.set (exclS brk gs rem ear).toNat false) (ear ++ [votesS gs rem]) else aliveS rem
/-- A round. -/
structure Rnd where
  votes : List Int
  keep : List Int
  quota : Int
  exh : Int
  el : List Int
  ex : List Int
  ti : List Int
def keepS (rem : List Bool) : List Int := rem.map fun b => if b = true then 1 else 0
def quotaS (gs : List Grp) (rem : List Bool) : Int := (votesS gs rem).sum / 2 + 1
def wins (whole : Bool) (gs : List Grp) (rem : List Bool) (c : Int) : Bool := (!whole && decide (quotaS gs rem ≤ wt (remB rem) gs c)) || decide ((aliveS rem).length = 1)
def tiedW (gs : List Grp) (rem : List Bool) : List Int := if 1 < (lowS gs rem).length then lowS gs rem else []
def mkR (gs : List Grp) (rem : List Bool) (el ex ti : List Int) : Rnd := ⟨votesS gs rem, keepS rem, quotaS gs rem, restS gs rem, el, ex, ti⟩
/-- The rounds of a count; whole: until one candidate remains. -/
def countS (whole : Bool) (brk : List (List Int) → List Int → Int) (gs : List Grp) : Nat → List Bool → List (List Int) → List Rnd
  | 0, _, _ => []
  | k + 1, rem, ear =>
    match (aliveS rem).find? (wins whole gs rem) with
    | some w => [mkR gs rem [w] [] []]
    | none => mkR gs rem [] [exclS brk gs rem ear] (tiedW gs rem) :: countS whole brk gs k (rem.set (exclS brk gs rem ear).toNat false) (ear ++ [votesS gs rem])

/-- One alone can win. -/
theorem wins_one {whole : Bool} {gs : List Grp} {rem : List Bool} {a b : Int} (hp : PosG gs) (ha : a ∈ aliveS rem) (hb : b ∈ aliveS rem) (h1 : wins whole gs rem a = true) (h2 : wins whole gs rem b = true) : a = b := by
  refine Classical.byContradiction fun hab => ?_
  have ra := remB_lt (mem_alive.1 ha)
  have rb := remB_lt (mem_alive.1 hb)
  have hlen : (aliveS rem).length ≠ 1 := by
    intro e
    obtain ⟨y, hy⟩ := List.length_eq_one_iff.1 e
    rw [hy] at ha hb
    exact hab ((List.mem_singleton.1 ha).trans (List.mem_singleton.1 hb).symm)
  have hq : ∀ c, wins whole gs rem c = true → quotaS gs rem ≤ wt (remB rem) gs c := by
    intro c hc
    unfold wins at hc
    rw [Bool.or_eq_true, Bool.and_eq_true, decide_eq_true_iff, decide_eq_true_iff] at hc
    rcases hc with h | h
    · exact h.2
    · exact absurd h hlen
  have k1 := hq a h1
  have k2 := hq b h2
  have k3 := live_two (R := remB rem) hp ra.1 rb.1 hab
  have k4 := votes_sum gs rem
  unfold quotaS at k1 k2
  omega
theorem find_unique {f : Int → Bool} {l : List Int} {w : Int} (hw : w ∈ l) (hf : f w = true) (hu : ∀ a ∈ l, f a = true → a = w) : l.find? f = some w := by
  cases h : l.find? f with
  | none => exact absurd hf (List.find?_eq_none.1 h w hw)
  | some a => rw [hu a (List.mem_of_find?_eq_some h) (List.find?_some h)]
/-- From the other end the same one is found. -/
theorem wins_rev {whole : Bool} {gs : List Grp} {rem : List Bool} (hp : PosG gs) : (aliveS rem).reverse.find? (wins whole gs rem) = (aliveS rem).find? (wins whole gs rem) := by
  cases h : (aliveS rem).find? (wins whole gs rem) with
  | none => rw [List.find?_eq_none] at h ⊢; exact fun x hx => h x (List.mem_reverse.1 hx)
  | some w =>
    have h1 := List.mem_of_find?_eq_some h
    have h2 := List.find?_some h
    exact find_unique (List.mem_reverse.2 h1) h2 fun a ha hf => wins_one hp (List.mem_reverse.1 ha) h1 hf h2

/-- Who has more than half of what is not exhausted is the last one. -/
theorem order_last {brk : List (List Int) → List Int → Int} {gs : List Grp} (hp : PosG gs) {w : Int} : ∀ (k : Nat) (rem : List Bool) (ear : List (List Int)), Brk rem.length brk → (aliveS rem).length ≤ k → w ∈ aliveS rem → liveW (remB rem) gs < 2 * wt (remB rem) gs w → (orderS brk gs k rem ear).getLast? = some w
  | 0, rem, ear, _, hk, hw, _ => by
    have : aliveS rem = [] := List.eq_nil_of_length_eq_zero (by omega)
    rw [this] at hw; simp at hw
  | k + 1, rem, ear, hb, hk, hw, hm => by
    unfold orderS
    split
    · next h1 =>
      have hne : aliveS rem ≠ [] := fun e => by rw [e] at hw; simp at hw
      have hx := excl_low (gs := gs) (ear := ear) hb hne
      generalize exclS brk gs rem ear = x at hx ⊢
      have hxa := low_sub hx
      have hl := mem_low.1 hx
      have rx := remB_lt (mem_alive.1 hxa)
      have rw' := remB_lt (mem_alive.1 hw)
      have hxw : x ≠ w := by
        rintro rfl
        obtain ⟨y, hy, hyx⟩ : ∃ y ∈ aliveS rem, y ≠ x := by
          refine Classical.byContradiction fun g => ?_
          have e : (aliveS rem).filter (fun d => decide (d ≠ x)) = [] := List.filter_eq_nil_iff.2 fun y hy => by
            rw [decide_eq_true_iff]
            exact fun h => g ⟨y, hy, h⟩
          have := filter_one (sorted_nodup (alive_sorted rem)) hw
          rw [e] at this
          simp at this
          omega
        have h2 := hl.2 y (mem_alive.1 hy)
        have h3 := live_two (R := remB rem) hp rw'.1 (remB_lt (mem_alive.1 hy)).1 (Ne.symm hyx)
        omega
      have hlen := alive_less hxa
      have hw2 : w ∈ aliveS (rem.set x.toNat false) := by
        rw [alive_set hxa, List.mem_filter]
        exact ⟨hw, by simpa using Ne.symm hxw⟩
      have hsub : ∀ d, remB (rem.set x.toNat false) d = true → remB rem d = true := by
        intro d hd
        rw [rem_set rx.1] at hd
        exact ((Bool.and_eq_true _ _).mp hd).1
      have m1 := wt_mono (R := remB rem) (R' := remB (rem.set x.toNat false)) (gs := gs) hp hsub (mem_alive.1 hw2) (c := w) (by omega)
      have m2 := live_mono (R := remB rem) (R' := remB (rem.set x.toNat false)) (gs := gs) hp (fun c hc => (remB_lt hc).1) hsub
      have ih := order_last hp k (rem.set x.toNat false) (ear ++ [votesS gs rem]) (by rw [List.length_set]; exact hb) (by omega) hw2 (by omega)
      rw [List.getLast?_cons, ih]
      rfl
    · next h1 =>
      have e : (aliveS rem).length = 1 := by
        have : 0 < (aliveS rem).length := List.length_pos_of_mem hw
        omega
      obtain ⟨y, hy⟩ := List.length_eq_one_iff.1 e
      rw [hy] at hw ⊢
      rw [List.mem_singleton.1 hw]
      rfl
/-- The order: all that remain, each once. -/
theorem order_perm {brk : List (List Int) → List Int → Int} {gs : List Grp} : ∀ (k : Nat) (rem : List Bool) (ear : List (List Int)), Brk rem.length brk → (aliveS rem).length ≤ k → (orderS brk gs k rem ear).Perm (aliveS rem)
  | 0, rem, ear, _, hk => by
    have : aliveS rem = [] := List.eq_nil_of_length_eq_zero (by omega)
    rw [this]; exact List.Perm.nil
  | k + 1, rem, ear, hb, hk => by
    unfold orderS
    split
    · next h1 =>
      have hne : aliveS rem ≠ [] := fun e => by rw [e] at h1; simp at h1
      have hxa := low_sub (excl_low (gs := gs) (ear := ear) hb hne)
      generalize exclS brk gs rem ear = x at hxa ⊢
      have hlen := alive_less hxa
      have ih := order_perm (gs := gs) k (rem.set x.toNat false) (ear ++ [votesS gs rem]) (by rw [List.length_set]; exact hb) (by omega)
      refine (ih.cons x).trans ?_
      rw [alive_set hxa]
      have hnd := sorted_nodup (alive_sorted rem)
      refine (List.perm_ext_iff_of_nodup (List.nodup_cons.2 ⟨fun h => ?_, hnd.filter _⟩) hnd).2 fun y => ?_
      · have := (List.mem_filter.1 h).2
        simp at this
      · rw [List.mem_cons, List.mem_filter, decide_eq_true_iff]
        refine ⟨?_, fun h => ?_⟩
        · rintro (h | h)
          · rw [h]; exact hxa
          · exact h.1
        · by_cases e : y = x
          · exact .inl e
          · exact .inr ⟨h, e⟩
    · exact List.Perm.refl _
/-- The last one can be reached. -/
theorem order_can {brk : List (List Int) → List Int → Int} {gs : List Grp} {n : Int} : ∀ (k : Nat) (rem : List Bool) (ear : List (List Int)), Brk rem.length brk → (aliveS rem).length ≤ k → aliveS rem ≠ [] → Rch n gs (remB rem) → ∃ w, (orderS brk gs k rem ear).getLast? = some w ∧ Rch n gs (single w)
  | 0, rem, ear, _, hk, hne, _ => absurd (List.eq_nil_of_length_eq_zero (by omega)) hne
  | k + 1, rem, ear, hb, hk, hne, hr => by
    unfold orderS
    split
    · next h1 =>
      have hx := excl_low (gs := gs) (ear := ear) hb hne
      generalize exclS brk gs rem ear = x at hx ⊢
      have hxa := low_sub hx
      have hl := mem_low.1 hx
      have rx := remB_lt (mem_alive.1 hxa)
      have hlen := alive_less hxa
      have hne2 : aliveS (rem.set x.toNat false) ≠ [] := fun e => by rw [e] at hlen; simp at hlen; omega
      obtain ⟨d, hd⟩ := List.exists_mem_of_ne_nil _ hne2
      rw [alive_set hxa, List.mem_filter, decide_eq_true_iff] at hd
      have hstep := Rch.step hr hl (mem_alive.1 hd.1) hd.2
      rw [← rem_set rx.1] at hstep
      obtain ⟨w, h2, h3⟩ := order_can k (rem.set x.toNat false) (ear ++ [votesS gs rem]) (by rw [List.length_set]; exact hb) (by omega) hne2 hstep
      refine ⟨w, ?_, h3⟩
      rw [List.getLast?_cons, h2]
      rfl
    · next h1 =>
      have e : (aliveS rem).length = 1 := by
        have : 0 < (aliveS rem).length := List.length_pos_iff.2 hne
        omega
      obtain ⟨y, hy⟩ := List.length_eq_one_iff.1 e
      refine ⟨y, by rw [hy]; rfl, ?_⟩
      have : remB rem = single y := by
        funext d
        rw [Bool.eq_iff_iff, ← mem_alive, hy]
        simp [single]
      rw [← this]; exact hr
/-- The rounds of a count and the order of exclusion: alike up to the round in which one is elected; the elected one is the last of the order. -/
def Agree : List Rnd → List Int → Prop
  | [], _ => False
  | [r], o => ∃ w, r.el = [w] ∧ r.ex = [] ∧ o.getLast? = some w
  | r :: r' :: t, o => ∃ x o', o = x :: o' ∧ r.ex = [x] ∧ r.el = [] ∧ Agree (r' :: t) o'
theorem wins_quota {gs : List Grp} {rem : List Bool} {w : Int} (h : wins false gs rem w = true) (h1 : (aliveS rem).length ≠ 1) : liveW (remB rem) gs < 2 * wt (remB rem) gs w := by
  unfold wins at h
  rw [Bool.or_eq_true, Bool.and_eq_true, decide_eq_true_iff, decide_eq_true_iff] at h
  rcases h with h | h
  · have := h.2
    unfold quotaS at this
    rw [votes_sum] at this
    omega
  · exact absurd h h1
theorem count_ne {whole : Bool} {brk : List (List Int) → List Int → Int} {gs : List Grp} {k : Nat} {rem : List Bool} {ear : List (List Int)} : countS whole brk gs (k + 1) rem ear ≠ [] := by
  unfold countS
  split <;> simp
theorem count_agree {brk : List (List Int) → List Int → Int} {gs : List Grp} (hp : PosG gs) : ∀ (k : Nat) (rem : List Bool) (ear : List (List Int)), Brk rem.length brk → (aliveS rem).length ≤ k → aliveS rem ≠ [] → Agree (countS false brk gs k rem ear) (orderS brk gs k rem ear)
  | 0, rem, ear, _, hk, hne => absurd (List.eq_nil_of_length_eq_zero (by omega)) hne
  | k + 1, rem, ear, hb, hk, hne => by
    unfold countS
    split
    · next w hw =>
      have hwa := List.mem_of_find?_eq_some hw
      have hwf := List.find?_some hw
      refine ⟨w, rfl, rfl, ?_⟩
      by_cases h1 : (aliveS rem).length = 1
      · unfold orderS
        rw [if_neg (by omega)]
        obtain ⟨y, hy⟩ := List.length_eq_one_iff.1 h1
        rw [hy] at hwa ⊢
        rw [List.mem_singleton.1 hwa]
        rfl
      · exact order_last hp (k + 1) rem ear hb hk hwa (wins_quota hwf h1)
    · next hw =>
      have h1 : 1 < (aliveS rem).length := by
        have h0 : 0 < (aliveS rem).length := List.length_pos_iff.2 hne
        refine Classical.byContradiction fun g => ?_
        obtain ⟨a, ha⟩ := List.exists_mem_of_ne_nil _ hne
        have := List.find?_eq_none.1 hw a ha
        unfold wins at this
        have e : (aliveS rem).length = 1 := by omega
        rw [e] at this
        simp at this
      unfold orderS
      rw [if_pos h1]
      have hxa := low_sub (excl_low (gs := gs) (ear := ear) hb hne)
      generalize exclS brk gs rem ear = x at hxa ⊢
      have hlen := alive_less hxa
      have hne2 : aliveS (rem.set x.toNat false) ≠ [] := fun e => by rw [e] at hlen; simp at hlen; omega
      have ih := count_agree hp k (rem.set x.toNat false) (ear ++ [votesS gs rem]) (by rw [List.length_set]; exact hb) (by omega) hne2
      cases k with
      | zero => omega
      | succ k =>
        generalize hc : countS false brk gs (k + 1) (rem.set x.toNat false) (ear ++ [votesS gs rem]) = t at ih ⊢
        cases t with
        | nil => exact absurd hc count_ne
        | cons r t => exact ⟨x, _, rfl, rfl, rfl, ih⟩
/-- The whole count's rounds yield the order. -/
theorem order_of_count {brk : List (List Int) → List Int → Int} {gs : List Grp} : ∀ (k : Nat) (rem : List Bool) (ear : List (List Int)), Brk rem.length brk → (aliveS rem).length ≤ k → aliveS rem ≠ [] → (countS true brk gs k rem ear).flatMap (fun r => r.ex ++ r.el) = orderS brk gs k rem ear
  | 0, rem, ear, _, hk, hne => absurd (List.eq_nil_of_length_eq_zero (by omega)) hne
  | k + 1, rem, ear, hb, hk, hne => by
    have h0 : 0 < (aliveS rem).length := List.length_pos_iff.2 hne
    unfold countS orderS
    by_cases h1 : 1 < (aliveS rem).length
    · have hf : (aliveS rem).find? (wins true gs rem) = none := List.find?_eq_none.2 fun a _ => by
        unfold wins
        have : (aliveS rem).length ≠ 1 := by omega
        simp [this]
      rw [hf, if_pos h1]
      have hxa := low_sub (excl_low (gs := gs) (ear := ear) hb hne)
      simp only
      generalize exclS brk gs rem ear = x at hxa ⊢
      have hlen := alive_less hxa
      have hne2 : aliveS (rem.set x.toNat false) ≠ [] := fun e => by rw [e] at hlen; simp at hlen; omega
      have ih := order_of_count (gs := gs) k (rem.set x.toNat false) (ear ++ [votesS gs rem]) (by rw [List.length_set]; exact hb) (by omega) hne2
      rw [List.flatMap_cons, ih]
      rfl
    · have e : (aliveS rem).length = 1 := by omega
      obtain ⟨y, hy⟩ := List.length_eq_one_iff.1 e
      have hf : (aliveS rem).find? (wins true gs rem) = some y := by
        rw [hy, List.find?_cons]
        unfold wins
        simp [e]
      rw [hf, if_neg h1, hy]
      rfl

end Go.Proofs.Nums

/- pile.isAny, Valid, isPermutation, remains; rows of flags. -/
namespace Go.Proofs.YtbnhgmikegdppaaGreat
open Go.RowKit Go.Proofs.Kit Go.Proofs.Nums

/-- A row of flags. -/
def BoolsAt (w : World) (v : Value) (l : List Bool) : Prop := RowAt w v (l.map Value.bool)
theorem BoolsAt.keep {w w' : World} {v : Value} {l : List Bool} (h : BoolsAt w v l) (hb : Below w.heap.size w w') : BoolsAt w' v l := RowAt.keep h hb
theorem BoolsAt.shape {w : World} {v : Value} {l : List Bool} (h : BoolsAt w v l) : ∃ p c, v = .slice p l.length c := by
  obtain ⟨p, cap, h1, _⟩ := h
  rw [List.length_map] at h1
  exact ⟨p, cap, h1⟩
theorem BoolsAt.len {w : World} {v : Value} {l : List Bool} (hv : BoolsAt w v l) : l.length ≤ 9223372036854775807 := by
  obtain ⟨p, cap, _, h1, h2, _⟩ := hv
  rw [List.length_map] at h1
  omega
theorem BoolsAt.cellAt {w : World} {p : Option Addr} {n c : Nat} {l : List Bool} (h : BoolsAt w (.slice p n c) l) (j : Nat) (hj : j < l.length) :
    ∃ b off, p = some ⟨b, off, none⟩ ∧ l.length ≤ c ∧ c ≤ 9223372036854775807 ∧ w.cell? ⟨b, off + j, none⟩ = some (.bool (l.getD j false)) := by
  rcases RowAt.cases h with ⟨h1, _⟩ | ⟨_, b, off, k, hv, h2, h3, _, hc⟩
  · have := congrArg List.length h1
    rw [List.length_map] at this
    simp at this
    rw [this] at hj; simp at hj
  · simp only [Value.slice.injEq] at hv
    obtain ⟨rfl, _, rfl⟩ := hv
    rw [List.length_map] at h2
    refine ⟨b, off, rfl, h2, h3, hc j _ ?_⟩
    rw [List.getElem?_map, List.getElem?_eq_getElem hj, List.getD_eq_getElem?_getD, List.getElem?_eq_getElem hj]
    rfl

set_option maxHeartbeats 1000000 in
theorem isany_c {v : Value} {gs : List Grp} {w : World} (hv : PileAt w v gs) :
    Calls Tryz.prog 48 #[v] w fun e w' => e = .returned (.bool (pileS 7 gs)) ∧ Below w.heap.size w w' := by
  have C := ispile_c hv 7 (Nat.le_refl _)
  rw [show ((7 : Nat) : Int) = 7 by omega] at C
  have C := Lib.hid C
  clear hv
  go_enter Tryz.func48, Tryz.ntmps48
  go_wp2_with (go_at_call 46; ((with_reducible refine C.out.mono ?_); rintro _ w1 ⟨rfl, hb1⟩))
  go_ret
  exact ⟨rfl, hb1⟩

/-- pile.Valid. -/
noncomputable def okS (n : Int) (gs : List Grp) : Bool := decide (1 ≤ n) && decide (n ≤ 7) && pileS n gs
set_option maxHeartbeats 1000000 in
theorem pvalid_c {v : Value} {gs : List Grp} {w : World} (hv : PileAt w v gs) (n : Int) :
    Calls Tryz.prog 44 #[.int .i64 n, v] w fun e w' => e = .returned (.bool (okS n gs)) ∧ Below w.heap.size w w' := by
  unfold okS
  by_cases h1 : 1 ≤ n
  · by_cases h7 : n ≤ 7
    · obtain ⟨m, rfl⟩ : ∃ m : Nat, n = m := ⟨n.toNat, by omega⟩
      have C := Lib.hid (ispile_c hv m (by omega))
      obtain ⟨r, hr⟩ : ∃ r, pileS m gs = r := ⟨_, rfl⟩
      rw [hr] at C ⊢
      have d1 : decide ((1 : Int) ≤ m) = true := decide_eq_true h1
      have d2 : decide ((m : Int) ≤ 7) = true := decide_eq_true h7
      rw [d1, d2]
      clear hv hr
      go_enter Tryz.func44, Tryz.ntmps44
      go_wp2_with (go_at_call 46; ((with_reducible refine C.out.mono ?_); rintro _ w1 ⟨rfl, hb1⟩))
      go_ret
      exact ⟨ret_bb (by simp), hb1⟩
    · have d1 : decide ((1 : Int) ≤ n) = true := decide_eq_true h1
      have d2 : decide (n ≤ 7) = false := decide_eq_false h7
      rw [d1, d2]
      clear hv
      go_enter Tryz.func44, Tryz.ntmps44
      go_wp2_with fail
      go_ret
      exact ⟨ret_bb (by simp), Below.refl _ _⟩
  · have d1 : decide ((1 : Int) ≤ n) = false := decide_eq_false h1
    rw [d1]
    clear hv
    go_enter Tryz.func44, Tryz.ntmps44
    go_wp2_with fail
    go_ret
    exact ⟨ret_bb (by simp), Below.refl _ _⟩

/-- pile.isPermutation. -/
def permB (n : Nat) (l : List Int) : Bool := decide (l.length = n) && balS n l
set_option maxHeartbeats 1000000 in
theorem isperm_c {v : Value} {l : List Int} {w : World} (hv : IntsAt w v l) (n : Nat) (h7 : n ≤ 7) :
    Calls Tryz.prog 47 #[v, .int .i64 n] w fun e w' => e = .returned (.bool (permB n l)) ∧ Below w.heap.size w w' := by
  have C := Lib.hid (isballot_c hv n h7)
  have hlm := hv.len
  obtain ⟨p, c, rfl⟩ := hv.shape
  unfold permB
  obtain ⟨r, hr⟩ : ∃ r, balS n l = r := ⟨_, rfl⟩
  rw [hr] at C ⊢
  obtain ⟨len, hlen⟩ : ∃ n, l.length = n := ⟨_, rfl⟩
  rw [hlen] at C hlm ⊢
  clear hv hr hlen
  by_cases h : len = n
  · subst h
    go_enter Tryz.func47, Tryz.ntmps47
    go_wp2_with (go_at_call 66; ((with_reducible refine C.out.mono ?_); rintro _ w1 ⟨rfl, hb1⟩))
    go_ret
    exact ⟨ret_bb (by simp), hb1⟩
  · have hz : ((len : Int) == (n : Int)) = false := by rw [beq_eq_false_iff_ne]; omega
    rw [decide_eq_false h]
    clear C
    go_enter Tryz.func47, Tryz.ntmps47
    go_wp2_with fail
    go_ret
    exact ⟨ret_bb (by simp), Below.refl _ _⟩

theorem remB_ge {l : List Bool} {x : Int} (h : (l.length : Int) ≤ x) : remB l x = false := by
  cases g : remB l x with
  | false => rfl
  | true => have := remB_lt g; omega
theorem remB_at {l : List Bool} {k : Nat} : remB l k = l.getD k false := by
  unfold remB
  rw [decide_eq_true (by omega), Bool.true_and]
  rfl
set_option maxHeartbeats 1000000 in
theorem remains_c {v : Value} {l : List Bool} {w : World} (hv : BoolsAt w v l) (x : Int) (hx : 0 ≤ x) :
    Calls Tryz.prog 50 #[v, .int .i64 x] w fun e w' => e = .returned (.bool (remB l x)) ∧ w = w' := by
  have H := Lib.hid hv
  have hlm := hv.len
  obtain ⟨p, c, rfl⟩ := hv.shape
  clear hv
  by_cases h : x < l.length
  · obtain ⟨k, rfl⟩ : ∃ k : Nat, x = k := ⟨x.toNat, by omega⟩
    obtain ⟨b, off, e, i1, i2, hc⟩ := H.out.cellAt k (by omega)
    subst e
    rw [← remB_at] at hc
    obtain ⟨r, hr⟩ : ∃ r, remB l k = r := ⟨_, rfl⟩
    rw [hr] at hc ⊢
    obtain ⟨len, hlen⟩ : ∃ n, l.length = n := ⟨_, rfl⟩
    rw [hlen] at hlm h i1 ⊢
    clear hr hlen H
    go_enter Tryz.func50, Tryz.ntmps50
    go_wp2_with fail
    go_ret
    exact ⟨rfl, rfl⟩
  · rw [remB_ge (by omega)]
    obtain ⟨len, hlen⟩ : ∃ n, l.length = n := ⟨_, rfl⟩
    rw [hlen] at hlm h ⊢
    clear hlen H
    have hz : ¬ x < (len : Int) := h
    go_enter Tryz.func50, Tryz.ntmps50
    go_wp2_with fail
    go_ret
    exact ⟨rfl, rfl⟩

set_option maxHeartbeats 1000000 in
theorem first1_c {v : Value} {l : List Bool} {w : World} {K : Nat} (hK : w.cell? ⟨K, 0, none⟩ = some v) (hv : BoolsAt w v l) (x : Int) (hx : 0 ≤ x) :
    Calls Tryz.prog 49 #[.int .i64 x, .pointer (some ⟨K, 0, none⟩)] w fun e w' => e = .returned (.bool (remB l x)) ∧ w = w' := by
  have C := Lib.hid (remains_c hv x hx)
  obtain ⟨p, c, rfl⟩ := hv.shape
  clear hv
  go_enter Tryz.func49, Tryz.ntmps49
  go_wp2_with (go_at_call 50; ((with_reducible refine C.out.mono ?_); rintro _ _ ⟨rfl, rfl⟩))
  go_ret
  exact ⟨rfl, rfl⟩

end Go.Proofs.YtbnhgmikegdppaaGreat

/- slices.IndexFunc; pile.First. -/
namespace Go.Proofs.Nums

/-- slices.IndexFunc: where the first one stands that f takes, or -1. -/
def indexF (f : Int → Bool) : List Int → Int
  | [] => -1
  | a :: t => if f a = true then 0 else if indexF f t < 0 then -1 else indexF f t + 1
theorem indexF_at {f : Int → Bool} {l : List Int} {k : Nat} (h : k < l.length) (hn : ∀ x ∈ l.take k, f x = false) (hy : f (l.getD k 0) = true) : indexF f l = k ∧ l.find? f = some (l.getD k 0) := by
  induction k generalizing l with
  | zero =>
    cases l with
    | nil => simp at h
    | cons a t =>
      have hy : f a = true := hy
      simp [indexF, hy]
  | succ k ih =>
    cases l with
    | nil => simp at h
    | cons a t =>
      have ha : f a = false := hn a (by simp)
      obtain ⟨h1, h2⟩ := ih (l := t) (by simpa using h) (fun x hx => hn x (by rw [List.take_succ_cons]; exact List.mem_cons_of_mem _ hx)) hy
      refine ⟨?_, ?_⟩
      · unfold indexF
        rw [if_neg (by rw [ha]; simp), h1, if_neg (by omega)]
        omega
      · rw [List.find?_cons, ha]
        simpa using h2
theorem indexF_no {f : Int → Bool} {l : List Int} (hn : ∀ x ∈ l, f x = false) : indexF f l = -1 ∧ l.find? f = none := by
  induction l with
  | nil => exact ⟨rfl, rfl⟩
  | cons a t ih =>
    have ha : f a = false := hn a (by simp)
    obtain ⟨h1, h2⟩ := ih fun x hx => hn x (List.mem_cons_of_mem _ hx)
    refine ⟨?_, ?_⟩
    · unfold indexF
      rw [if_neg (by rw [ha]; simp), h1, if_pos (by omega)]
    · rw [List.find?_cons, ha]; simpa using h2
theorem none_snoc {f : Int → Bool} {l : List Int} {k : Nat} {y : Int} (h : k < l.length) (hy : l.getD k 0 = y) (hn : ∀ x ∈ l.take k, f x = false) (hf : f y = false) : ∀ x ∈ l.take (k + 1), f x = false := by
  rw [take_snoc_i h, hy]
  intro x hx
  rcases List.mem_append.1 hx with g | g
  · exact hn x g
  · rw [List.mem_singleton.1 g]; exact hf
/-- Where it stands, and who it is. -/
theorem indexF_cases (f : Int → Bool) (l : List Int) : (indexF f l = -1 ∧ l.find? f = none) ∨ ∃ i : Nat, i < l.length ∧ indexF f l = i ∧ l.find? f = some (l.getD i 0) := by
  induction l with
  | nil => exact .inl ⟨rfl, rfl⟩
  | cons a t ih =>
    cases ha : f a with
    | true => exact .inr ⟨0, by simp, by simp [indexF, ha], by simp [ha]⟩
    | false =>
      rcases ih with ⟨h1, h2⟩ | ⟨i, h0, h1, h2⟩
      · left
        refine ⟨?_, ?_⟩
        · unfold indexF
          rw [if_neg (by rw [ha]; simp), h1, if_pos (by omega)]
        · rw [List.find?_cons, ha]; simpa using h2
      · right
        refine ⟨i + 1, by simpa using h0, ?_, ?_⟩
        · unfold indexF
          rw [if_neg (by rw [ha]; simp), h1, if_neg (by omega)]
          omega
        · rw [List.find?_cons, ha]; simpa using h2

end Go.Proofs.Nums
namespace Go.Proofs.YtbnhgmikegdppaaGreat
open Go.RowKit Go.Proofs.Kit Go.Proofs.Nums

set_option maxRecDepth 100000 in
set_option maxHeartbeats 2000000 in
theorem indexfirst_c {v vr : Value} {l : List Int} {rem : List Bool} {w : World} {K : Nat} (hv : IntsAt w v l) (h0 : ∀ x ∈ l, 0 ≤ x) (hK : w.cell? ⟨K, 0, none⟩ = some vr) (hr : BoolsAt w vr rem) :
    Calls Tryz.prog 27 #[v, .func (.func 49) #[] #[.pointer (some ⟨K, 0, none⟩)]] w fun e w' => e = .returned (.int .i64 (indexF (remB rem) l)) ∧ w = w' := by
  have PR := Lib.hid (fun x (hx : 0 ≤ x) => first1_c hK hr x hx)
  have H := Lib.hid hv
  have H0 := Lib.hid h0
  have hlm := hv.len
  obtain ⟨p, c, rfl⟩ := hv.shape
  obtain ⟨len, hlen⟩ : ∃ n, l.length = n := ⟨_, rfl⟩
  have HN := Lib.hid hlen
  rw [hlen] at H hlm ⊢
  obtain ⟨z, hz⟩ : ∃ z, indexF (remB rem) l = z := ⟨_, rfl⟩
  have HZ := Lib.hid hz
  rw [hz]
  clear hv hK hr hlen hz h0
  go_enter Tryz.func27, Tryz.ntmps27
  go_wp2_with fail
  go_loopw [8] (fun iv wr => ∃ k : Nat, k ≤ len ∧ iv = .int .i64 k ∧ wr = w ∧ Hid (∀ x ∈ l.take k, remB rem x = false)) (fun iv _ => len - (intOf iv).toNat)
  case atStart => exact ⟨0, by omega, rfl, rfl, Lib.hid (fun x hx => by simp at hx)⟩
  case round =>
    obtain ⟨k, hk, rfl, rfl, hP⟩ := hrel
    by_cases hlt : k < len
    · have hltz : (k : Int) < (len : Int) := by omega
      obtain ⟨bb, off, hp0, hc1, hc2, hcell⟩ := H.out.cellAt k (by rw [HN.out]; exact hlt)
      subst hp0
      obtain ⟨y, hy⟩ : ∃ y, l.getD k 0 = y := ⟨_, rfl⟩
      rw [hy] at hcell
      have hy0 : 0 ≤ y := H0.out y (mem_getD (by rw [HN.out]; exact hlt) hy)
      have C := PR.out y hy0
      cases hb : remB rem y
      · rw [hb] at C
        have C := Lib.hid C
        have HX := Lib.hid (none_snoc (by rw [HN.out]; exact hlt) hy hP.out hb)
        clear hb hy
        go_wp2_with (go_at_call 49; ((with_reducible refine C.out.mono ?_); rintro _ _ ⟨rfl, rfl⟩))
        go_roundw
        case rel => exact ⟨k + 1, by omega, by go_num, by trivial, HX⟩
        case measure => simp [intOf] <;> omega
      · rw [hb] at C
        have C := Lib.hid C
        have HX : Hid ((k : Int) = z) := Lib.hid (by rw [← HZ.out]; exact (indexF_at (by rw [HN.out]; exact hlt) hP.out (by rw [hy]; exact hb)).1.symm)
        clear hb hy
        go_wp2_with (go_at_call 49; ((with_reducible refine C.out.mono ?_); rintro _ _ ⟨rfl, rfl⟩))
        go_ret
        exact ⟨ret_ii HX.out, rfl⟩
    · have hltz : ¬ (k : Int) < (len : Int) := by omega
      have HX : Hid ((-1 : Int) = z) := Lib.hid (by rw [← HZ.out, (indexF_no (by have := hP.out; rwa [List.take_of_length_le (by rw [HN.out]; omega)] at this)).1])
      go_wp2_with fail
      go_ret
      exact ⟨ret_ii HX.out, rfl⟩

end Go.Proofs.YtbnhgmikegdppaaGreat
