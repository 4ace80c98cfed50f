/- The plain law of ties: those with the least votes, by the step and by the filter. -/
import Derived.Test.YthplbhgbgcfogaaT6
import Derived.Test.YthplbhgbgcfogaaT4
namespace Go.Proofs.Nums

/-- A strict weak order. -/
structure Swo (lt : Int → Int → Bool) : Prop where
  irr : ∀ a, lt a a = false
  asy : ∀ a b, lt a b = true → lt b a = false
  tr : ∀ a b c, lt a b = false → lt b c = false → lt a c = false
def extA (lt : Int → Int → Bool) (l : List Int) : List Int := l.filter fun c => l.all fun k => !lt k c
def exStep (lt : Int → Int → Bool) : List Int → Int → List Int
  | [], c => [c]
  | b :: t, c => if lt c b = true then [c] else if lt b c = true then b :: t else b :: t ++ [c]
theorem mem_extA {lt : Int → Int → Bool} {l : List Int} {x : Int} : x ∈ extA lt l ↔ x ∈ l ∧ ∀ k ∈ l, lt k x = false := by
  unfold extA
  simp
theorem extA_snoc0 {lt : Int → Int → Bool} (h : Swo lt) {p : List Int} (hp : p ≠ [] → extA lt p ≠ []) (c : Int) : extA lt (p ++ [c]) = exStep lt (extA lt p) c := by
  have hall : ∀ x, (p ++ [c]).all (fun k => !lt k x) = (p.all (fun k => !lt k x) && !lt c x) := fun x => by simp
  have e0 : extA lt (p ++ [c]) = (p.filter fun x => p.all (fun k => !lt k x) && !lt c x) ++ ([c].filter fun x => p.all (fun k => !lt k x) && !lt c x) := by
    unfold extA
    rw [← List.filter_append]
    simp only [hall]
  rw [e0]
  cases hE : extA lt p with
  | nil =>
    have : p = [] := Classical.byContradiction fun g => hp g hE
    subst this
    simp [exStep, h.irr]
  | cons b t =>
    have hb : b ∈ extA lt p := by rw [hE]; simp
    obtain ⟨hb1, hb2⟩ := mem_extA.1 hb
    simp only [exStep]
    by_cases h1 : lt c b = true
    · rw [if_pos h1]
      have ea : (p.filter fun x => p.all (fun k => !lt k x) && !lt c x) = [] := by
        rw [List.filter_eq_nil_iff]
        intro x hx hcon
        simp only [Bool.and_eq_true, List.all_eq_true, Bool.not_eq_true'] at hcon
        have := h.tr c x b hcon.2 (hb2 x hx)
        rw [h1] at this; simp at this
      have eb : ([c].filter fun x => p.all (fun k => !lt k x) && !lt c x) = [c] := by
        rw [List.filter_eq_self]
        intro x hx
        rw [List.mem_singleton.1 hx]
        simp only [Bool.and_eq_true, List.all_eq_true, Bool.not_eq_true']
        refine ⟨fun k hk => ?_, h.irr c⟩
        cases hk2 : lt k c with
        | false => rfl
        | true =>
          have := h.tr c k b (h.asy k c hk2) (hb2 k hk)
          rw [h1] at this; simp at this
      rw [ea, eb]; rfl
    · have h1 : lt c b = false := by cases hc : lt c b with | false => rfl | true => exact absurd hc h1
      rw [if_neg (by rw [h1]; decide)]
      have ea : (p.filter fun x => p.all (fun k => !lt k x) && !lt c x) = b :: t := by
        rw [← hE]
        unfold extA
        refine List.filter_congr fun x hx => ?_
        cases hq : p.all (fun k => !lt k x) with
        | false => rfl
        | true =>
          simp only [List.all_eq_true, Bool.not_eq_true'] at hq
          rw [h.tr c b x h1 (hq b hb1)]; rfl
      rw [ea]
      by_cases h2 : lt b c = true
      · rw [if_pos h2]
        have eb : ([c].filter fun x => p.all (fun k => !lt k x) && !lt c x) = [] := by
          rw [List.filter_eq_nil_iff]
          intro x hx hcon
          rw [List.mem_singleton.1 hx] at hcon
          simp only [Bool.and_eq_true, List.all_eq_true, Bool.not_eq_true'] at hcon
          have := hcon.1 b hb1
          rw [h2] at this; simp at this
        rw [eb, List.append_nil]
      · have h2 : lt b c = false := by cases hc : lt b c with | false => rfl | true => exact absurd hc h2
        rw [if_neg (by rw [h2]; decide)]
        have eb : ([c].filter fun x => p.all (fun k => !lt k x) && !lt c x) = [c] := by
          rw [List.filter_eq_self]
          intro x hx
          rw [List.mem_singleton.1 hx]
          simp only [Bool.and_eq_true, List.all_eq_true, Bool.not_eq_true']
          exact ⟨fun k hk => h.tr k b c (hb2 k hk) h2, h.irr c⟩
        rw [eb]
theorem exStep_ne {lt : Int → Int → Bool} {o : List Int} {c : Int} : exStep lt o c ≠ [] := by
  cases o with
  | nil => simp [exStep]
  | cons b t => simp only [exStep]; split; · simp
                split <;> simp
theorem extA_ne {lt : Int → Int → Bool} (h : Swo lt) : ∀ (n : Nat) {p : List Int}, p.length = n → p ≠ [] → extA lt p ≠ [] := by
  intro n
  induction n with
  | zero => intro p hp hne; exact absurd (List.eq_nil_of_length_eq_zero hp) hne
  | succ n ih =>
    intro p hp hne
    have e := List.dropLast_concat_getLast hne
    rw [← e, extA_snoc0 h (fun g => ih (by rw [List.length_dropLast, hp]; rfl) g)]
    exact exStep_ne
theorem extA_snoc {lt : Int → Int → Bool} (h : Swo lt) (p : List Int) (c : Int) : extA lt (p ++ [c]) = exStep lt (extA lt p) c := extA_snoc0 h (fun g => extA_ne h _ rfl g) c
theorem extA_ne' {lt : Int → Int → Bool} (h : Swo lt) {p : List Int} (hp : p ≠ []) : extA lt p ≠ [] := extA_ne h _ rfl hp
theorem extA_sub {lt : Int → Int → Bool} {p : List Int} : (extA lt p).Sublist p := List.filter_sublist

/-- a has less than b. -/
def lessQ (a b : Q) : Bool := decide (a.n * b.d < b.n * a.d)
def vote (v : List Q) (c : Int) : Q := v.getD c.toNat (Q.of 0)
def ltV (v : List Q) (least : Bool) (a b : Int) : Bool := if least then lessQ (vote v a) (vote v b) else lessQ (vote v b) (vote v a)
theorem lessQ_irr (a : Q) : lessQ a a = false := by unfold lessQ; simp
theorem lessQ_asy {a b : Q} (h : lessQ a b = true) : lessQ b a = false := by
  unfold lessQ at *
  simp only [decide_eq_true_eq, decide_eq_false_iff_not] at *
  omega
theorem lessQ_tr {a b c : Q} (hb : 0 < b.d) (h1 : lessQ a b = false) (h2 : lessQ b c = false) : lessQ a c = false := by
  unfold lessQ at *
  simp only [decide_eq_false_iff_not, Nat.not_lt] at *
  have g1 := Nat.mul_le_mul_right c.d h1
  have g2 := Nat.mul_le_mul_right a.d h2
  have : (c.n * a.d) * b.d ≤ (a.n * c.d) * b.d := by
    calc (c.n * a.d) * b.d = c.n * b.d * a.d := by rw [Nat.mul_assoc, Nat.mul_comm a.d, ← Nat.mul_assoc]
      _ ≤ b.n * c.d * a.d := g2
      _ = b.n * a.d * c.d := by rw [Nat.mul_assoc, Nat.mul_comm c.d, ← Nat.mul_assoc]
      _ ≤ a.n * b.d * c.d := g1
      _ = (a.n * c.d) * b.d := by rw [Nat.mul_assoc, Nat.mul_comm b.d, ← Nat.mul_assoc]
  exact Nat.le_of_mul_le_mul_right this hb
def Shs (v : List Q) : Prop := ∀ q ∈ v, ShQ q
theorem vote_sh {v : List Q} (h : Shs v) (c : Int) : ShQ (vote v c) := by
  unfold vote
  rw [List.getD_eq_getElem?_getD]
  cases hc : v[c.toNat]? with
  | none => exact ShQ.zero
  | some q => exact h q (List.mem_of_getElem? hc)
theorem ltV_swo {v : List Q} (h : Shs v) (least : Bool) : Swo (ltV v least) := by
  have hd : ∀ c, 0 < (vote v c).d := fun c => (vote_sh h c).1.1
  cases least
  · exact ⟨fun a => lessQ_irr _, fun a b g => lessQ_asy g, fun a b c g1 g2 => lessQ_tr (hd b) g2 g1⟩
  · exact ⟨fun a => lessQ_irr _, fun a b g => lessQ_asy g, fun a b c g1 g2 => lessQ_tr (hd b) g1 g2⟩
theorem cmpS_lt {a b : Q} (h : lessQ a b = true) : cmpS a b = -1 := by
  unfold lessQ at h
  unfold cmpS
  rw [if_pos (by simpa using h)]
theorem cmpS_gt {a b : Q} (h : lessQ b a = true) : cmpS a b = 1 := by
  have g := lessQ_asy h
  unfold lessQ at h g
  unfold cmpS
  rw [if_neg (by simpa using g), if_pos (by simpa using h)]
theorem cmpS_eq {a b : Q} (h : lessQ a b = false) (g : lessQ b a = false) : cmpS a b = 0 := by
  unfold lessQ at h g
  unfold cmpS
  rw [if_neg (by simpa using h), if_neg (by simpa using g)]
theorem ordS {v : List Q} (least : Bool) (c b : Int) : ∃ z : Int, (if least then cmpS (vote v c) (vote v b) else - cmpS (vote v c) (vote v b)) = z ∧ ((z = -1 ∧ ltV v least c b = true) ∨ (z = 1 ∧ ltV v least c b = false ∧ ltV v least b c = true) ∨ (z = 0 ∧ ltV v least c b = false ∧ ltV v least b c = false)) := by
  refine ⟨_, rfl, ?_⟩
  cases least <;> simp only [ltV]
  · cases h1 : lessQ (vote v b) (vote v c)
    · cases h2 : lessQ (vote v c) (vote v b)
      · rw [cmpS_eq h2 h1]; simp
      · rw [cmpS_lt h2]; simp
    · rw [cmpS_gt h1]; simp
  · cases h1 : lessQ (vote v c) (vote v b)
    · cases h2 : lessQ (vote v b) (vote v c)
      · rw [cmpS_eq h1 h2]; simp
      · rw [cmpS_gt h2]; simp
    · rw [cmpS_lt h1]; simp

/-- Those that are left of l behind the rounds. -/
def leftS (least : Bool) : List (List Q) → List Int → List Int
  | [], l => l
  | v :: vs, l => leftS least vs (if 1 < l.length then extA (ltV v least) l else l)
theorem leftS_one (least : Bool) (vs : List (List Q)) {l : List Int} (h : ¬ 1 < l.length) : leftS least vs l = l := by
  induction vs with
  | nil => rfl
  | cons v vs ih => simp only [leftS, if_neg h]; exact ih
theorem leftS_app (least : Bool) (vs ws : List (List Q)) (l : List Int) : leftS least (vs ++ ws) l = leftS least ws (leftS least vs l) := by
  induction vs generalizing l with
  | nil => rfl
  | cons v vs ih => simp only [List.cons_append, leftS]; exact ih _
theorem leftS_sub (least : Bool) (vs : List (List Q)) (l : List Int) : (leftS least vs l).Sublist l := by
  induction vs generalizing l with
  | nil => exact List.Sublist.refl _
  | cons v vs ih =>
    simp only [leftS]
    refine (ih _).trans ?_
    split
    · exact extA_sub
    · exact List.Sublist.refl _
theorem leftS_ne (least : Bool) {vs : List (List Q)} (hs : ∀ v ∈ vs, Shs v) {l : List Int} (h : l ≠ []) : leftS least vs l ≠ [] := by
  induction vs generalizing l with
  | nil => exact h
  | cons v vs ih =>
    simp only [leftS]
    refine ih (fun v hv => hs v (by simp [hv])) ?_
    split
    · exact extA_ne' (ltV_swo (hs v (by simp)) least) h
    · exact h
/-- The rounds in the order in which they are examined. -/
def roundsS (rule : Int) (L : List (List Q)) : List (List Q) := if rule = 3 then [] else if rule = 1 then L.reverse else L
/-- By lot: the greatest place if the least is wanted, the least place otherwise. -/
def pickStep (lots : List Int) (least : Bool) (b x : Int) : Int := if decide (placeN lots b < placeN lots x) = least then x else b
def pickS (lots : List Int) (least : Bool) (l : List Int) : Int := l.tail.foldl (pickStep lots least) (l.headD 0)
def validS (rule : Int) (tied lots : List Int) : Bool :=
  decide (1 ≤ rule ∧ rule ≤ 3 ∧ 1 ≤ lots.length ∧ lots.length ≤ 7 ∧ (∀ c ∈ lots, 0 ≤ c ∧ c < (lots.length : Int)) ∧ lots.Nodup ∧ tied ≠ [] ∧ (∀ c ∈ tied, 0 ≤ c ∧ c < (lots.length : Int)) ∧ tied.Pairwise (· < ·))
def breakS (rule : Int) (L : List (List Q)) (tied lots : List Int) (least : Bool) : Int × Bool :=
  if validS rule tied lots = true then
    (let l := leftS least (roundsS rule L) tied
     if l.length = 1 then (l.headD 0, false) else (pickS lots least l, true))
  else (-1, false)

end Go.Proofs.Nums
