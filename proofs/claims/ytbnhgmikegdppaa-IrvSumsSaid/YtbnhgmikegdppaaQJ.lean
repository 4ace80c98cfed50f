/- Contracts and plain facts, part 10: Vc, I3, I4, Vd, I5, I6, I7, I8, I9, Ia. No condition beyond those that each theorem states. -/
import Derived.Test.YtbnhgmikegdppaaQI
/- Runs of a count, plain. -/
namespace Go.Proofs.Nums

/-- Candidate c remains. -/
def remB (rem : List Bool) (c : Int) : Bool := decide (0 ≤ c) && rem.getD c.toNat false
theorem remB_lt {rem : List Bool} {c : Int} (h : remB rem c = true) : 0 ≤ c ∧ c < rem.length := by
  unfold remB at h
  rw [Bool.and_eq_true, decide_eq_true_iff] at h
  refine ⟨h.1, Classical.byContradiction fun g => ?_⟩
  have := h.2
  rw [List.getD_eq_getElem?_getD, List.getElem?_eq_none (by omega)] at this
  simp at this
def aliveS (rem : List Bool) : List Int := ((List.range rem.length).map fun i : Nat => (i : Int)).filter (remB rem)
theorem mem_alive {rem : List Bool} {c : Int} : c ∈ aliveS rem ↔ remB rem c = true := by
  unfold aliveS
  rw [List.mem_filter]
  refine ⟨fun h => h.2, fun h => ⟨?_, h⟩⟩
  have := remB_lt h
  exact List.mem_map.2 ⟨c.toNat, List.mem_range.2 (by omega), by omega⟩
theorem range_sorted (n : Nat) : ((List.range n).map fun i : Nat => (i : Int)).Pairwise (· < ·) := by
  rw [List.pairwise_map]
  exact List.pairwise_lt_range.imp fun h => by omega
theorem alive_sorted (rem : List Bool) : (aliveS rem).Pairwise (· < ·) := (range_sorted _).filter _
theorem sorted_nodup {l : List Int} (h : l.Pairwise (· < ·)) : l.Nodup := h.imp fun h => by omega
theorem alive_le (rem : List Bool) : (aliveS rem).length ≤ rem.length := by
  unfold aliveS
  exact Nat.le_trans (List.length_filter_le _ _) (by simp)
theorem alive_full (n : Nat) : aliveS (List.replicate n true) = (List.range n).map fun i : Nat => (i : Int) := by
  unfold aliveS
  rw [List.length_replicate, List.filter_eq_self]
  intro c hc
  obtain ⟨i, hi, rfl⟩ := List.mem_map.1 hc
  have hi := List.mem_range.1 hi
  unfold remB
  simp [hi]
theorem rem_full (n : Nat) : remB (List.replicate n true) = fun c => decide (0 ≤ c ∧ c < (n : Int)) := by
  funext c
  rw [Bool.eq_iff_iff, ← mem_alive, alive_full, decide_eq_true_iff]
  constructor
  · intro h
    obtain ⟨i, hi, rfl⟩ := List.mem_map.1 h
    have := List.mem_range.1 hi
    omega
  · intro h
    exact List.mem_map.2 ⟨c.toNat, List.mem_range.2 (by omega), by omega⟩
theorem rem_set {rem : List Bool} {x : Int} (hx : 0 ≤ x) : remB (rem.set x.toNat false) = fun d => remB rem d && decide (d ≠ x) := by
  funext d
  unfold remB
  by_cases h0 : 0 ≤ d
  · rw [List.getD_eq_getElem?_getD, List.getD_eq_getElem?_getD, List.getElem?_set]
    by_cases h : d = x
    · subst h
      simp
      split <;> simp
    · have : ¬ x.toNat = d.toNat := by omega
      simp [this, h]
  · simp [h0]
theorem filter_one {l : List Int} (hn : l.Nodup) {x : Int} (hx : x ∈ l) : (l.filter fun d => decide (d ≠ x)).length + 1 = l.length := by
  induction l with
  | nil => simp at hx
  | cons a l ih =>
    rw [List.nodup_cons] at hn
    rw [List.filter_cons]
    by_cases h : a = x
    · subst h
      have e : l.filter (fun d => decide (d ≠ a)) = l := List.filter_eq_self.2 fun y hy => by
        rw [decide_eq_true_iff]
        rintro rfl
        exact hn.1 hy
      simp only [ne_eq, not_true_eq_false, decide_false, Bool.false_eq_true, if_false]
      rw [e]; rfl
    · rw [if_pos (by simpa using h), List.length_cons, List.length_cons, ih hn.2 (by
        rcases List.mem_cons.1 hx with g | g
        · exact absurd g.symm h
        · exact g)]
theorem alive_set {rem : List Bool} {x : Int} (hx : x ∈ aliveS rem) : aliveS (rem.set x.toNat false) = (aliveS rem).filter fun d => decide (d ≠ x) := by
  have h0 := remB_lt (mem_alive.1 hx)
  unfold aliveS
  rw [List.length_set, rem_set h0.1, List.filter_filter]
  exact List.filter_congr fun c _ => Bool.and_comm _ _
theorem alive_less {rem : List Bool} {x : Int} (hx : x ∈ aliveS rem) : (aliveS (rem.set x.toNat false)).length + 1 = (aliveS rem).length := by
  rw [alive_set hx]; exact filter_one (sorted_nodup (alive_sorted _)) hx

def votesS (gs : List Grp) (rem : List Bool) : List Int := (List.range rem.length).map fun i : Nat => wt (remB rem) gs i
def restS (gs : List Grp) (rem : List Bool) : Int := wt (remB rem) gs (-1)
def ltW (gs : List Grp) (rem : List Bool) (a b : Int) : Bool := decide (wt (remB rem) gs a < wt (remB rem) gs b)
/-- The remaining candidates with the least votes. -/
def lowS (gs : List Grp) (rem : List Bool) : List Int := extA (ltW gs rem) (aliveS rem)
theorem mem_low {gs : List Grp} {rem : List Bool} {x : Int} : x ∈ lowS gs rem ↔ Low gs (remB rem) x := by
  unfold lowS Low ltW
  rw [mem_extA, mem_alive]
  refine and_congr Iff.rfl ⟨fun h d hd => ?_, fun h d hd => ?_⟩
  · have := h d (mem_alive.2 hd)
    rw [decide_eq_false_iff_not] at this
    omega
  · have := h d (mem_alive.1 hd)
    rw [decide_eq_false_iff_not]
    omega
theorem low_sub {gs : List Grp} {rem : List Bool} {x : Int} (h : x ∈ lowS gs rem) : x ∈ aliveS rem := (mem_extA.1 h).1
theorem low_sorted (gs : List Grp) (rem : List Bool) : (lowS gs rem).Pairwise (· < ·) := (alive_sorted rem).filter _
/-- There is a least one. -/
theorem least_of {f : Int → Int} : ∀ {l : List Int}, l ≠ [] → ∃ x ∈ l, ∀ d ∈ l, f x ≤ f d
  | [a], _ => ⟨a, by simp, fun d hd => by rw [List.mem_singleton.1 hd]; exact Int.le_refl _⟩
  | a :: b :: l, _ => by
    obtain ⟨x, hx, h⟩ := least_of (f := f) (l := b :: l) (by simp)
    by_cases g : f a ≤ f x
    · refine ⟨a, by simp, fun d hd => ?_⟩
      rcases List.mem_cons.1 hd with e | e
      · rw [e]; exact Int.le_refl _
      · exact Int.le_trans g (h d e)
    · refine ⟨x, List.mem_cons_of_mem _ hx, fun d hd => ?_⟩
      rcases List.mem_cons.1 hd with e | e
      · rw [e]; omega
      · exact h d e
theorem low_ne {gs : List Grp} {rem : List Bool} (h : aliveS rem ≠ []) : lowS gs rem ≠ [] := by
  obtain ⟨x, hx, hl⟩ := least_of (f := wt (remB rem) gs) h
  intro e
  have : x ∈ lowS gs rem := mem_low.2 ⟨mem_alive.1 hx, fun d hd => hl d (mem_alive.2 hd)⟩
  rw [e] at this
  simp at this
/-- The votes add up. -/
theorem sumF_split {f h e : List Int → Bool} {gs : List Grp} (hx : ∀ g ∈ gs, (e g.p = true ↔ f g.p = true ∨ h g.p = true) ∧ ¬ (f g.p = true ∧ h g.p = true)) : sumF e gs = sumF f gs + sumF h gs := by
  induction gs with
  | nil => rfl
  | cons g gs ih =>
    rw [sumF_cons, sumF_cons, sumF_cons, ih fun g hg => hx g (by simp [hg])]
    have := hx g (by simp)
    cases hf : f g.p <;> cases hh : h g.p <;> cases he : e g.p <;> simp [hf, hh, he] at this ⊢ <;> omega
theorem sum_to (R : Int → Bool) (gs : List Grp) (m : Nat) : ((List.range m).map fun i : Nat => wt R gs i).sum = sumF (fun p => decide (0 ≤ firstC R p ∧ firstC R p < (m : Int))) gs := by
  induction m with
  | zero =>
    have : sumF (fun p => decide (0 ≤ firstC R p ∧ firstC R p < ((0 : Nat) : Int))) gs = sumF (fun _ => false) gs := sumF_congr fun g _ => by
      rw [decide_eq_false_iff_not]; omega
    rw [this]
    clear this
    unfold sumF
    induction gs with
    | nil => rfl
    | cons g gs ih => simpa using ih
  | succ m ih =>
    rw [List.range_succ, List.map_append, List.sum_append, ih]
    simp only [List.map_cons, List.map_nil, List.sum_cons, List.sum_nil, Int.add_zero]
    refine (sumF_split fun g _ => ?_).symm
    simp only [decide_eq_true_iff]
    omega
/-- The ballots that are not exhausted. -/
def liveW (R : Int → Bool) (gs : List Grp) : Int := sumF (fun p => decide (0 ≤ firstC R p)) gs
theorem first_some {R : Int → Bool} {p : List Int} {c : Int} (h : firstC R p = c) (hc : c ≠ -1) : R c = true := by
  rw [first_iff hc] at h
  exact List.find?_some h
theorem votes_sum (gs : List Grp) (rem : List Bool) : (votesS gs rem).sum = liveW (remB rem) gs := by
  unfold votesS liveW
  rw [sum_to]
  refine sumF_congr fun g _ => ?_
  rw [decide_eq_decide]
  refine ⟨fun h => h.1, fun h => ⟨h, ?_⟩⟩
  exact (remB_lt (first_some rfl (by omega))).2
theorem first_ge {rem : List Bool} {p : List Int} : -1 ≤ firstC (remB rem) p := by
  by_cases h : firstC (remB rem) p = -1
  · omega
  · have := remB_lt (first_some rfl h); omega
theorem votes_rest (gs : List Grp) (rem : List Bool) : (votesS gs rem).sum + restS gs rem = sumF (fun _ => true) gs := by
  rw [votes_sum]
  unfold liveW restS wt
  refine (sumF_split fun g _ => ?_).symm
  have := first_ge (rem := rem) (p := g.p)
  rw [decide_eq_true_iff, decide_eq_true_iff]
  exact ⟨⟨fun _ => by omega, fun _ => rfl⟩, by omega⟩
theorem live_two {R : Int → Bool} {gs : List Grp} {c x : Int} (hp : PosG gs) (h1 : 0 ≤ c) (h2 : 0 ≤ x) (h : c ≠ x) : wt R gs c + wt R gs x ≤ liveW R gs := by
  refine sumF_two hp (fun g _ e => ?_) (fun g _ e => ?_) (fun g _ e1 e2 => ?_)
  · rw [decide_eq_true_iff] at e ⊢; omega
  · rw [decide_eq_true_iff] at e ⊢; omega
  · rw [decide_eq_true_iff] at e1 e2; omega
theorem live_mono {R R' : Int → Bool} {gs : List Grp} (hp : PosG gs) (hr : ∀ c, R c = true → 0 ≤ c) (hs : ∀ d, R' d = true → R d = true) : liveW R' gs ≤ liveW R gs := by
  refine sumF_le hp fun g _ h => ?_
  rw [decide_eq_true_iff] at h ⊢
  have h2 : firstC R' g.p ≠ -1 := by omega
  have h3 := (first_iff h2).1 rfl
  have h4 := hs _ (List.find?_some h3)
  cases h5 : g.p.find? R with
  | none =>
    have := (List.find?_eq_none.1 h5) _ (List.mem_of_find?_eq_some h3)
    exact absurd h4 this
  | some y =>
    have : firstC R g.p = y := by unfold firstC; rw [h5]; rfl
    rw [this]
    exact hr y (List.find?_some h5)

/-- Who is excluded. -/
def exclS (brk : List (List Int) → List Int → Int) (gs : List Grp) (rem : List Bool) (ear : List (List Int)) : Int :=
  if 1 < (lowS gs rem).length then brk ear (lowS gs rem) else (lowS gs rem).headD 0
/-- A tie among n is broken in favour of one of the tied. -/
def Brk (n : Nat) (brk : List (List Int) → List Int → Int) : Prop := ∀ ear t, t ≠ [] → (∀ c ∈ t, 0 ≤ c ∧ c < (n : Int)) → t.Pairwise (· < ·) → brk ear t ∈ t
theorem excl_low {brk : List (List Int) → List Int → Int} {gs : List Grp} {rem : List Bool} {ear : List (List Int)} (hb : Brk rem.length brk) (h : aliveS rem ≠ []) : exclS brk gs rem ear ∈ lowS gs rem := by
  have hne := low_ne (gs := gs) h
  unfold exclS
  split
  · exact hb _ _ hne (fun c hc => remB_lt (mem_alive.1 (low_sub hc))) (low_sorted _ _)
  · cases hl : lowS gs rem with
    | nil => exact absurd hl hne
    | cons a t => simp
/-- The order of exclusion; the last one is the winner. -/
def orderS (brk : List (List Int) → List Int → Int) (gs : List Grp) : Nat → List Bool → List (List Int) → List Int
  | 0, _, _ => []
  | k + 1, rem, ear => if 1 < (aliveS rem).length then exclS brk gs rem ear :: orderS brk gs k (rem.set (exclS brk gs rem ear).toNat false) (ear ++ [votesS gs rem]) else aliveS rem
/-- A round. -/
structure Rnd where
  votes : List Int
  keep : List Int
  quota : Int
  exh : Int
  el : List Int
  ex : List Int
  ti : List Int
def keepS (rem : List Bool) : List Int := rem.map fun b => if b = true then 1 else 0
def quotaS (gs : List Grp) (rem : List Bool) : Int := (votesS gs rem).sum / 2 + 1
def wins (whole : Bool) (gs : List Grp) (rem : List Bool) (c : Int) : Bool := (!whole && decide (quotaS gs rem ≤ wt (remB rem) gs c)) || decide ((aliveS rem).length = 1)
def tiedW (gs : List Grp) (rem : List Bool) : List Int := if 1 < (lowS gs rem).length then lowS gs rem else []
def mkR (gs : List Grp) (rem : List Bool) (el ex ti : List Int) : Rnd := ⟨votesS gs rem, keepS rem, quotaS gs rem, restS gs rem, el, ex, ti⟩
/-- The rounds of a count; whole: until one candidate remains. -/
def countS (whole : Bool) (brk : List (List Int) → List Int → Int) (gs : List Grp) : Nat → List Bool → List (List Int) → List Rnd
  | 0, _, _ => []
  | k + 1, rem, ear =>
    match (aliveS rem).find? (wins whole gs rem) with
    | some w => [mkR gs rem [w] [] []]
    | none => mkR gs rem [] [exclS brk gs rem ear] (tiedW gs rem) :: countS whole brk gs k (rem.set (exclS brk gs rem ear).toNat false) (ear ++ [votesS gs rem])

/-- One alone can win. -/
theorem wins_one {whole : Bool} {gs : List Grp} {rem : List Bool} {a b : Int} (hp : PosG gs) (ha : a ∈ aliveS rem) (hb : b ∈ aliveS rem) (h1 : wins whole gs rem a = true) (h2 : wins whole gs rem b = true) : a = b := by
  refine Classical.byContradiction fun hab => ?_
  have ra := remB_lt (mem_alive.1 ha)
  have rb := remB_lt (mem_alive.1 hb)
  have hlen : (aliveS rem).length ≠ 1 := by
    intro e
    obtain ⟨y, hy⟩ := List.length_eq_one_iff.1 e
    rw [hy] at ha hb
    exact hab ((List.mem_singleton.1 ha).trans (List.mem_singleton.1 hb).symm)
  have hq : ∀ c, wins whole gs rem c = true → quotaS gs rem ≤ wt (remB rem) gs c := by
    intro c hc
    unfold wins at hc
    rw [Bool.or_eq_true, Bool.and_eq_true, decide_eq_true_iff, decide_eq_true_iff] at hc
    rcases hc with h | h
    · exact h.2
    · exact absurd h hlen
  have k1 := hq a h1
  have k2 := hq b h2
  have k3 := live_two (R := remB rem) hp ra.1 rb.1 hab
  have k4 := votes_sum gs rem
  unfold quotaS at k1 k2
  omega
theorem find_unique {f : Int → Bool} {l : List Int} {w : Int} (hw : w ∈ l) (hf : f w = true) (hu : ∀ a ∈ l, f a = true → a = w) : l.find? f = some w := by
  cases h : l.find? f with
  | none => exact absurd hf (List.find?_eq_none.1 h w hw)
  | some a => rw [hu a (List.mem_of_find?_eq_some h) (List.find?_some h)]
/-- From the other end the same one is found. -/
theorem wins_rev {whole : Bool} {gs : List Grp} {rem : List Bool} (hp : PosG gs) : (aliveS rem).reverse.find? (wins whole gs rem) = (aliveS rem).find? (wins whole gs rem) := by
  cases h : (aliveS rem).find? (wins whole gs rem) with
  | none => rw [List.find?_eq_none] at h ⊢; exact fun x hx => h x (List.mem_reverse.1 hx)
  | some w =>
    have h1 := List.mem_of_find?_eq_some h
    have h2 := List.find?_some h
    exact find_unique (List.mem_reverse.2 h1) h2 fun a ha hf => wins_one hp (List.mem_reverse.1 ha) h1 hf h2

/-- Who has more than half of what is not exhausted is the last one. -/
theorem order_last {brk : List (List Int) → List Int → Int} {gs : List Grp} (hp : PosG gs) {w : Int} : ∀ (k : Nat) (rem : List Bool) (ear : List (List Int)), Brk rem.length brk → (aliveS rem).length ≤ k → w ∈ aliveS rem → liveW (remB rem) gs < 2 * wt (remB rem) gs w → (orderS brk gs k rem ear).getLast? = some w
  | 0, rem, ear, _, hk, hw, _ => by
    have : aliveS rem = [] := List.eq_nil_of_length_eq_zero (by omega)
    rw [this] at hw; simp at hw
  | k + 1, rem, ear, hb, hk, hw, hm => by
    unfold orderS
    split
    · next h1 =>
      have hne : aliveS rem ≠ [] := fun e => by rw [e] at hw; simp at hw
      have hx := excl_low (gs := gs) (ear := ear) hb hne
      generalize exclS brk gs rem ear = x at hx ⊢
      have hxa := low_sub hx
      have hl := mem_low.1 hx
      have rx := remB_lt (mem_alive.1 hxa)
      have rw' := remB_lt (mem_alive.1 hw)
      have hxw : x ≠ w := by
        rintro rfl
        obtain ⟨y, hy, hyx⟩ : ∃ y ∈ aliveS rem, y ≠ x := by
          refine Classical.byContradiction fun g => ?_
          have e : (aliveS rem).filter (fun d => decide (d ≠ x)) = [] := List.filter_eq_nil_iff.2 fun y hy => by
            rw [decide_eq_true_iff]
            exact fun h => g ⟨y, hy, h⟩
          have := filter_one (sorted_nodup (alive_sorted rem)) hw
          rw [e] at this
          simp at this
          omega
        have h2 := hl.2 y (mem_alive.1 hy)
        have h3 := live_two (R := remB rem) hp rw'.1 (remB_lt (mem_alive.1 hy)).1 (Ne.symm hyx)
        omega
      have hlen := alive_less hxa
      have hw2 : w ∈ aliveS (rem.set x.toNat false) := by
        rw [alive_set hxa, List.mem_filter]
        exact ⟨hw, by simpa using Ne.symm hxw⟩
      have hsub : ∀ d, remB (rem.set x.toNat false) d = true → remB rem d = true := by
        intro d hd
        rw [rem_set rx.1] at hd
        exact ((Bool.and_eq_true _ _).mp hd).1
      have m1 := wt_mono (R := remB rem) (R' := remB (rem.set x.toNat false)) (gs := gs) hp hsub (mem_alive.1 hw2) (c := w) (by omega)
      have m2 := live_mono (R := remB rem) (R' := remB (rem.set x.toNat false)) (gs := gs) hp (fun c hc => (remB_lt hc).1) hsub
      have ih := order_last hp k (rem.set x.toNat false) (ear ++ [votesS gs rem]) (by rw [List.length_set]; exact hb) (by omega) hw2 (by omega)
      rw [List.getLast?_cons, ih]
      rfl
    · next h1 =>
      have e : (aliveS rem).length = 1 := by
        have : 0 < (aliveS rem).length := List.length_pos_of_mem hw
        omega
      obtain ⟨y, hy⟩ := List.length_eq_one_iff.1 e
      rw [hy] at hw ⊢
      rw [List.mem_singleton.1 hw]
      rfl
/-- The order: all that remain, each once. -/
theorem order_perm {brk : List (List Int) → List Int → Int} {gs : List Grp} : ∀ (k : Nat) (rem : List Bool) (ear : List (List Int)), Brk rem.length brk → (aliveS rem).length ≤ k → (orderS brk gs k rem ear).Perm (aliveS rem)
  | 0, rem, ear, _, hk => by
    have : aliveS rem = [] := List.eq_nil_of_length_eq_zero (by omega)
    rw [this]; exact List.Perm.nil
  | k + 1, rem, ear, hb, hk => by
    unfold orderS
    split
    · next h1 =>
      have hne : aliveS rem ≠ [] := fun e => by rw [e] at h1; simp at h1
      have hxa := low_sub (excl_low (gs := gs) (ear := ear) hb hne)
      generalize exclS brk gs rem ear = x at hxa ⊢
      have hlen := alive_less hxa
      have ih := order_perm (gs := gs) k (rem.set x.toNat false) (ear ++ [votesS gs rem]) (by rw [List.length_set]; exact hb) (by omega)
      refine (ih.cons x).trans ?_
      rw [alive_set hxa]
      have hnd := sorted_nodup (alive_sorted rem)
      refine (List.perm_ext_iff_of_nodup (List.nodup_cons.2 ⟨fun h => ?_, hnd.filter _⟩) hnd).2 fun y => ?_
      · have := (List.mem_filter.1 h).2
        simp at this
      · rw [List.mem_cons, List.mem_filter, decide_eq_true_iff]
        refine ⟨?_, fun h => ?_⟩
        · rintro (h | h)
          · rw [h]; exact hxa
          · exact h.1
        · by_cases e : y = x
          · exact .inl e
          · exact .inr ⟨h, e⟩
    · exact List.Perm.refl _
/-- The last one can be reached. -/
theorem order_can {brk : List (List Int) → List Int → Int} {gs : List Grp} {n : Int} : ∀ (k : Nat) (rem : List Bool) (ear : List (List Int)), Brk rem.length brk → (aliveS rem).length ≤ k → aliveS rem ≠ [] → Rch n gs (remB rem) → ∃ w, (orderS brk gs k rem ear).getLast? = some w ∧ Rch n gs (single w)
  | 0, rem, ear, _, hk, hne, _ => absurd (List.eq_nil_of_length_eq_zero (by omega)) hne
  | k + 1, rem, ear, hb, hk, hne, hr => by
    unfold orderS
    split
    · next h1 =>
      have hx := excl_low (gs := gs) (ear := ear) hb hne
      generalize exclS brk gs rem ear = x at hx ⊢
      have hxa := low_sub hx
      have hl := mem_low.1 hx
      have rx := remB_lt (mem_alive.1 hxa)
      have hlen := alive_less hxa
      have hne2 : aliveS (rem.set x.toNat false) ≠ [] := fun e => by rw [e] at hlen; simp at hlen; omega
      obtain ⟨d, hd⟩ := List.exists_mem_of_ne_nil _ hne2
      rw [alive_set hxa, List.mem_filter, decide_eq_true_iff] at hd
      have hstep := Rch.step hr hl (mem_alive.1 hd.1) hd.2
      rw [← rem_set rx.1] at hstep
      obtain ⟨w, h2, h3⟩ := order_can k (rem.set x.toNat false) (ear ++ [votesS gs rem]) (by rw [List.length_set]; exact hb) (by omega) hne2 hstep
      refine ⟨w, ?_, h3⟩
      rw [List.getLast?_cons, h2]
      rfl
    · next h1 =>
      have e : (aliveS rem).length = 1 := by
        have : 0 < (aliveS rem).length := List.length_pos_iff.2 hne
        omega
      obtain ⟨y, hy⟩ := List.length_eq_one_iff.1 e
      refine ⟨y, by rw [hy]; rfl, ?_⟩
      have : remB rem = single y := by
        funext d
        rw [Bool.eq_iff_iff, ← mem_alive, hy]
        simp [single]
      rw [← this]; exact hr
/-- The rounds of a count and the order of exclusion: alike up to the round in which one is elected; the elected one is the last of the order. -/
def Agree : List Rnd → List Int → Prop
  | [], _ => False
  | [r], o => ∃ w, r.el = [w] ∧ r.ex = [] ∧ o.getLast? = some w
  | r :: r' :: t, o => ∃ x o', o = x :: o' ∧ r.ex = [x] ∧ r.el = [] ∧ Agree (r' :: t) o'
theorem wins_quota {gs : List Grp} {rem : List Bool} {w : Int} (h : wins false gs rem w = true) (h1 : (aliveS rem).length ≠ 1) : liveW (remB rem) gs < 2 * wt (remB rem) gs w := by
  unfold wins at h
  rw [Bool.or_eq_true, Bool.and_eq_true, decide_eq_true_iff, decide_eq_true_iff] at h
  rcases h with h | h
  · have := h.2
    unfold quotaS at this
    rw [votes_sum] at this
    omega
  · exact absurd h h1
theorem count_ne {whole : Bool} {brk : List (List Int) → List Int → Int} {gs : List Grp} {k : Nat} {rem : List Bool} {ear : List (List Int)} : countS whole brk gs (k + 1) rem ear ≠ [] := by
  unfold countS
  split <;> simp
theorem count_agree {brk : List (List Int) → List Int → Int} {gs : List Grp} (hp : PosG gs) : ∀ (k : Nat) (rem : List Bool) (ear : List (List Int)), Brk rem.length brk → (aliveS rem).length ≤ k → aliveS rem ≠ [] → Agree (countS false brk gs k rem ear) (orderS brk gs k rem ear)
  | 0, rem, ear, _, hk, hne => absurd (List.eq_nil_of_length_eq_zero (by omega)) hne
  | k + 1, rem, ear, hb, hk, hne => by
    unfold countS
    split
    · next w hw =>
      have hwa := List.mem_of_find?_eq_some hw
      have hwf := List.find?_some hw
      refine ⟨w, rfl, rfl, ?_⟩
      by_cases h1 : (aliveS rem).length = 1
      · unfold orderS
        rw [if_neg (by omega)]
        obtain ⟨y, hy⟩ := List.length_eq_one_iff.1 h1
        rw [hy] at hwa ⊢
        rw [List.mem_singleton.1 hwa]
        rfl
      · exact order_last hp (k + 1) rem ear hb hk hwa (wins_quota hwf h1)
    · next hw =>
      have h1 : 1 < (aliveS rem).length := by
        have h0 : 0 < (aliveS rem).length := List.length_pos_iff.2 hne
        refine Classical.byContradiction fun g => ?_
        obtain ⟨a, ha⟩ := List.exists_mem_of_ne_nil _ hne
        have := List.find?_eq_none.1 hw a ha
        unfold wins at this
        have e : (aliveS rem).length = 1 := by omega
        rw [e] at this
        simp at this
      unfold orderS
      rw [if_pos h1]
      have hxa := low_sub (excl_low (gs := gs) (ear := ear) hb hne)
      generalize exclS brk gs rem ear = x at hxa ⊢
      have hlen := alive_less hxa
      have hne2 : aliveS (rem.set x.toNat false) ≠ [] := fun e => by rw [e] at hlen; simp at hlen; omega
      have ih := count_agree hp k (rem.set x.toNat false) (ear ++ [votesS gs rem]) (by rw [List.length_set]; exact hb) (by omega) hne2
      cases k with
      | zero => omega
      | succ k =>
        generalize hc : countS false brk gs (k + 1) (rem.set x.toNat false) (ear ++ [votesS gs rem]) = t at ih ⊢
        cases t with
        | nil => exact absurd hc count_ne
        | cons r t => exact ⟨x, _, rfl, rfl, rfl, ih⟩
/-- The whole count's rounds yield the order. -/
theorem order_of_count {brk : List (List Int) → List Int → Int} {gs : List Grp} : ∀ (k : Nat) (rem : List Bool) (ear : List (List Int)), Brk rem.length brk → (aliveS rem).length ≤ k → aliveS rem ≠ [] → (countS true brk gs k rem ear).flatMap (fun r => r.ex ++ r.el) = orderS brk gs k rem ear
  | 0, rem, ear, _, hk, hne => absurd (List.eq_nil_of_length_eq_zero (by omega)) hne
  | k + 1, rem, ear, hb, hk, hne => by
    have h0 : 0 < (aliveS rem).length := List.length_pos_iff.2 hne
    unfold countS orderS
    by_cases h1 : 1 < (aliveS rem).length
    · have hf : (aliveS rem).find? (wins true gs rem) = none := List.find?_eq_none.2 fun a _ => by
        unfold wins
        have : (aliveS rem).length ≠ 1 := by omega
        simp [this]
      rw [hf, if_pos h1]
      have hxa := low_sub (excl_low (gs := gs) (ear := ear) hb hne)
      simp only
      generalize exclS brk gs rem ear = x at hxa ⊢
      have hlen := alive_less hxa
      have hne2 : aliveS (rem.set x.toNat false) ≠ [] := fun e => by rw [e] at hlen; simp at hlen; omega
      have ih := order_of_count (gs := gs) k (rem.set x.toNat false) (ear ++ [votesS gs rem]) (by rw [List.length_set]; exact hb) (by omega) hne2
      rw [List.flatMap_cons, ih]
      rfl
    · have e : (aliveS rem).length = 1 := by omega
      obtain ⟨y, hy⟩ := List.length_eq_one_iff.1 e
      have hf : (aliveS rem).find? (wins true gs rem) = some y := by
        rw [hy, List.find?_cons]
        unfold wins
        simp [e]
      rw [hf, if_neg h1, hy]
      rfl

end Go.Proofs.Nums

/- pile.isAny, Valid, isPermutation, remains; rows of flags. -/
namespace Go.Proofs.Ytbnhgmikegdppaa
open Go.RowKit Go.Proofs.Kit Go.Proofs.Nums

/-- A row of flags. -/
def BoolsAt (w : World) (v : Value) (l : List Bool) : Prop := RowAt w v (l.map Value.bool)
theorem BoolsAt.keep {w w' : World} {v : Value} {l : List Bool} (h : BoolsAt w v l) (hb : Below w.heap.size w w') : BoolsAt w' v l := RowAt.keep h hb
theorem BoolsAt.shape {w : World} {v : Value} {l : List Bool} (h : BoolsAt w v l) : ∃ p c, v = .slice p l.length c := by
  obtain ⟨p, cap, h1, _⟩ := h
  rw [List.length_map] at h1
  exact ⟨p, cap, h1⟩
theorem BoolsAt.len {w : World} {v : Value} {l : List Bool} (hv : BoolsAt w v l) : l.length ≤ 9223372036854775807 := by
  obtain ⟨p, cap, _, h1, h2, _⟩ := hv
  rw [List.length_map] at h1
  omega
theorem BoolsAt.cellAt {w : World} {p : Option Addr} {n c : Nat} {l : List Bool} (h : BoolsAt w (.slice p n c) l) (j : Nat) (hj : j < l.length) :
    ∃ b off, p = some ⟨b, off, none⟩ ∧ l.length ≤ c ∧ c ≤ 9223372036854775807 ∧ w.cell? ⟨b, off + j, none⟩ = some (.bool (l.getD j false)) := by
  rcases RowAt.cases h with ⟨h1, _⟩ | ⟨_, b, off, k, hv, h2, h3, _, hc⟩
  · have := congrArg List.length h1
    rw [List.length_map] at this
    simp at this
    rw [this] at hj; simp at hj
  · simp only [Value.slice.injEq] at hv
    obtain ⟨rfl, _, rfl⟩ := hv
    rw [List.length_map] at h2
    refine ⟨b, off, rfl, h2, h3, hc j _ ?_⟩
    rw [List.getElem?_map, List.getElem?_eq_getElem hj, List.getD_eq_getElem?_getD, List.getElem?_eq_getElem hj]
    rfl

set_option maxHeartbeats 1000000 in
theorem isany_c {v : Value} {gs : List Grp} {w : World} (hv : PileAt w v gs) :
    Calls Try.prog 67 #[v] w fun e w' => e = .returned (.bool (pileS 7 gs)) ∧ Below w.heap.size w w' := by
  have C := ispile_c hv 7 (Nat.le_refl _)
  rw [show ((7 : Nat) : Int) = 7 by omega] at C
  have C := Lib.hid C
  clear hv
  go_enter Try.func67, Try.ntmps67
  go_wp2_with (go_at_call 73; ((with_reducible refine C.out.mono ?_); rintro _ w1 ⟨rfl, hb1⟩))
  go_ret
  exact ⟨rfl, hb1⟩

/-- pile.Valid. -/
noncomputable def okS (n : Int) (gs : List Grp) : Bool := decide (1 ≤ n) && decide (n ≤ 7) && pileS n gs
set_option maxHeartbeats 1000000 in
theorem pvalid_c {v : Value} {gs : List Grp} {w : World} (hv : PileAt w v gs) (n : Int) :
    Calls Try.prog 43 #[.int .i64 n, v] w fun e w' => e = .returned (.bool (okS n gs)) ∧ Below w.heap.size w w' := by
  unfold okS
  by_cases h1 : 1 ≤ n
  · by_cases h7 : n ≤ 7
    · obtain ⟨m, rfl⟩ : ∃ m : Nat, n = m := ⟨n.toNat, by omega⟩
      have C := Lib.hid (ispile_c hv m (by omega))
      obtain ⟨r, hr⟩ : ∃ r, pileS m gs = r := ⟨_, rfl⟩
      rw [hr] at C ⊢
      have d1 : decide ((1 : Int) ≤ m) = true := decide_eq_true h1
      have d2 : decide ((m : Int) ≤ 7) = true := decide_eq_true h7
      rw [d1, d2]
      clear hv hr
      go_enter Try.func43, Try.ntmps43
      go_wp2_with (go_at_call 73; ((with_reducible refine C.out.mono ?_); rintro _ w1 ⟨rfl, hb1⟩))
      go_ret
      exact ⟨ret_bb (by simp), hb1⟩
    · have d1 : decide ((1 : Int) ≤ n) = true := decide_eq_true h1
      have d2 : decide (n ≤ 7) = false := decide_eq_false h7
      rw [d1, d2]
      clear hv
      go_enter Try.func43, Try.ntmps43
      go_wp2_with fail
      go_ret
      exact ⟨ret_bb (by simp), Below.refl _ _⟩
  · have d1 : decide ((1 : Int) ≤ n) = false := decide_eq_false h1
    rw [d1]
    clear hv
    go_enter Try.func43, Try.ntmps43
    go_wp2_with fail
    go_ret
    exact ⟨ret_bb (by simp), Below.refl _ _⟩

/-- pile.isPermutation. -/
def permB (n : Nat) (l : List Int) : Bool := decide (l.length = n) && balS n l
set_option maxHeartbeats 1000000 in
theorem isperm_c {v : Value} {l : List Int} {w : World} (hv : IntsAt w v l) (n : Nat) (h7 : n ≤ 7) :
    Calls Try.prog 77 #[v, .int .i64 n] w fun e w' => e = .returned (.bool (permB n l)) ∧ Below w.heap.size w w' := by
  have C := Lib.hid (isballot_c hv n h7)
  have hlm := hv.len
  obtain ⟨p, c, rfl⟩ := hv.shape
  unfold permB
  obtain ⟨r, hr⟩ : ∃ r, balS n l = r := ⟨_, rfl⟩
  rw [hr] at C ⊢
  obtain ⟨len, hlen⟩ : ∃ n, l.length = n := ⟨_, rfl⟩
  rw [hlen] at C hlm ⊢
  clear hv hr hlen
  by_cases h : len = n
  · subst h
    go_enter Try.func77, Try.ntmps77
    go_wp2_with (go_at_call 87; ((with_reducible refine C.out.mono ?_); rintro _ w1 ⟨rfl, hb1⟩))
    go_ret
    exact ⟨ret_bb (by simp), hb1⟩
  · have hz : ((len : Int) == (n : Int)) = false := by rw [beq_eq_false_iff_ne]; omega
    rw [decide_eq_false h]
    clear C
    go_enter Try.func77, Try.ntmps77
    go_wp2_with fail
    go_ret
    exact ⟨ret_bb (by simp), Below.refl _ _⟩

theorem remB_ge {l : List Bool} {x : Int} (h : (l.length : Int) ≤ x) : remB l x = false := by
  cases g : remB l x with
  | false => rfl
  | true => have := remB_lt g; omega
theorem remB_at {l : List Bool} {k : Nat} : remB l k = l.getD k false := by
  unfold remB
  rw [decide_eq_true (by omega), Bool.true_and]
  rfl
set_option maxHeartbeats 1000000 in
theorem remains_c {v : Value} {l : List Bool} {w : World} (hv : BoolsAt w v l) (x : Int) (hx : 0 ≤ x) :
    Calls Try.prog 69 #[v, .int .i64 x] w fun e w' => e = .returned (.bool (remB l x)) ∧ w = w' := by
  have H := Lib.hid hv
  have hlm := hv.len
  obtain ⟨p, c, rfl⟩ := hv.shape
  clear hv
  by_cases h : x < l.length
  · obtain ⟨k, rfl⟩ : ∃ k : Nat, x = k := ⟨x.toNat, by omega⟩
    obtain ⟨b, off, e, i1, i2, hc⟩ := H.out.cellAt k (by omega)
    subst e
    rw [← remB_at] at hc
    obtain ⟨r, hr⟩ : ∃ r, remB l k = r := ⟨_, rfl⟩
    rw [hr] at hc ⊢
    obtain ⟨len, hlen⟩ : ∃ n, l.length = n := ⟨_, rfl⟩
    rw [hlen] at hlm h i1 ⊢
    clear hr hlen H
    go_enter Try.func69, Try.ntmps69
    go_wp2_with fail
    go_ret
    exact ⟨rfl, rfl⟩
  · rw [remB_ge (by omega)]
    obtain ⟨len, hlen⟩ : ∃ n, l.length = n := ⟨_, rfl⟩
    rw [hlen] at hlm h ⊢
    clear hlen H
    have hz : ¬ x < (len : Int) := h
    go_enter Try.func69, Try.ntmps69
    go_wp2_with fail
    go_ret
    exact ⟨rfl, rfl⟩

set_option maxHeartbeats 1000000 in
theorem first1_c {v : Value} {l : List Bool} {w : World} {K : Nat} (hK : w.cell? ⟨K, 0, none⟩ = some v) (hv : BoolsAt w v l) (x : Int) (hx : 0 ≤ x) :
    Calls Try.prog 68 #[.int .i64 x, .pointer (some ⟨K, 0, none⟩)] w fun e w' => e = .returned (.bool (remB l x)) ∧ w = w' := by
  have C := Lib.hid (remains_c hv x hx)
  obtain ⟨p, c, rfl⟩ := hv.shape
  clear hv
  go_enter Try.func68, Try.ntmps68
  go_wp2_with (go_at_call 69; ((with_reducible refine C.out.mono ?_); rintro _ _ ⟨rfl, rfl⟩))
  go_ret
  exact ⟨rfl, rfl⟩

end Go.Proofs.Ytbnhgmikegdppaa

/- slices.IndexFunc; pile.First. -/
namespace Go.Proofs.Nums

/-- slices.IndexFunc: where the first one stands that f takes, or -1. -/
def indexF (f : Int → Bool) : List Int → Int
  | [] => -1
  | a :: t => if f a = true then 0 else if indexF f t < 0 then -1 else indexF f t + 1
theorem indexF_at {f : Int → Bool} {l : List Int} {k : Nat} (h : k < l.length) (hn : ∀ x ∈ l.take k, f x = false) (hy : f (l.getD k 0) = true) : indexF f l = k ∧ l.find? f = some (l.getD k 0) := by
  induction k generalizing l with
  | zero =>
    cases l with
    | nil => simp at h
    | cons a t =>
      have hy : f a = true := hy
      simp [indexF, hy]
  | succ k ih =>
    cases l with
    | nil => simp at h
    | cons a t =>
      have ha : f a = false := hn a (by simp)
      obtain ⟨h1, h2⟩ := ih (l := t) (by simpa using h) (fun x hx => hn x (by rw [List.take_succ_cons]; exact List.mem_cons_of_mem _ hx)) hy
      refine ⟨?_, ?_⟩
      · unfold indexF
        rw [if_neg (by rw [ha]; simp), h1, if_neg (by omega)]
        omega
      · rw [List.find?_cons, ha]
        simpa using h2
theorem indexF_no {f : Int → Bool} {l : List Int} (hn : ∀ x ∈ l, f x = false) : indexF f l = -1 ∧ l.find? f = none := by
  induction l with
  | nil => exact ⟨rfl, rfl⟩
  | cons a t ih =>
    have ha : f a = false := hn a (by simp)
    obtain ⟨h1, h2⟩ := ih fun x hx => hn x (List.mem_cons_of_mem _ hx)
    refine ⟨?_, ?_⟩
    · unfold indexF
      rw [if_neg (by rw [ha]; simp), h1, if_pos (by omega)]
    · rw [List.find?_cons, ha]; simpa using h2
theorem none_snoc {f : Int → Bool} {l : List Int} {k : Nat} {y : Int} (h : k < l.length) (hy : l.getD k 0 = y) (hn : ∀ x ∈ l.take k, f x = false) (hf : f y = false) : ∀ x ∈ l.take (k + 1), f x = false := by
  rw [take_snoc_i h, hy]
  intro x hx
  rcases List.mem_append.1 hx with g | g
  · exact hn x g
  · rw [List.mem_singleton.1 g]; exact hf
/-- Where it stands, and who it is. -/
theorem indexF_cases (f : Int → Bool) (l : List Int) : (indexF f l = -1 ∧ l.find? f = none) ∨ ∃ i : Nat, i < l.length ∧ indexF f l = i ∧ l.find? f = some (l.getD i 0) := by
  induction l with
  | nil => exact .inl ⟨rfl, rfl⟩
  | cons a t ih =>
    cases ha : f a with
    | true => exact .inr ⟨0, by simp, by simp [indexF, ha], by simp [ha]⟩
    | false =>
      rcases ih with ⟨h1, h2⟩ | ⟨i, h0, h1, h2⟩
      · left
        refine ⟨?_, ?_⟩
        · unfold indexF
          rw [if_neg (by rw [ha]; simp), h1, if_pos (by omega)]
        · rw [List.find?_cons, ha]; simpa using h2
      · right
        refine ⟨i + 1, by simpa using h0, ?_, ?_⟩
        · unfold indexF
          rw [if_neg (by rw [ha]; simp), h1, if_neg (by omega)]
          omega
        · rw [List.find?_cons, ha]; simpa using h2

end Go.Proofs.Nums
namespace Go.Proofs.Ytbnhgmikegdppaa
open Go.RowKit Go.Proofs.Kit Go.Proofs.Nums

set_option maxRecDepth 100000 in
set_option maxHeartbeats 2000000 in
theorem indexfirst_c {v vr : Value} {l : List Int} {rem : List Bool} {w : World} {K : Nat} (hv : IntsAt w v l) (h0 : ∀ x ∈ l, 0 ≤ x) (hK : w.cell? ⟨K, 0, none⟩ = some vr) (hr : BoolsAt w vr rem) :
    Calls Try.prog 50 #[v, .func (.func 68) #[] #[.pointer (some ⟨K, 0, none⟩)]] w fun e w' => e = .returned (.int .i64 (indexF (remB rem) l)) ∧ w = w' := by
  have PR := Lib.hid (fun x (hx : 0 ≤ x) => first1_c hK hr x hx)
  have H := Lib.hid hv
  have H0 := Lib.hid h0
  have hlm := hv.len
  obtain ⟨p, c, rfl⟩ := hv.shape
  obtain ⟨len, hlen⟩ : ∃ n, l.length = n := ⟨_, rfl⟩
  have HN := Lib.hid hlen
  rw [hlen] at H hlm ⊢
  obtain ⟨z, hz⟩ : ∃ z, indexF (remB rem) l = z := ⟨_, rfl⟩
  have HZ := Lib.hid hz
  rw [hz]
  clear hv hK hr hlen hz h0
  go_enter Try.func50, Try.ntmps50
  go_wp2_with fail
  go_loopw [8] (fun iv wr => ∃ k : Nat, k ≤ len ∧ iv = .int .i64 k ∧ wr = w ∧ Hid (∀ x ∈ l.take k, remB rem x = false)) (fun iv _ => len - (intOf iv).toNat)
  case atStart => exact ⟨0, by omega, rfl, rfl, Lib.hid (fun x hx => by simp at hx)⟩
  case round =>
    obtain ⟨k, hk, rfl, rfl, hP⟩ := hrel
    by_cases hlt : k < len
    · have hltz : (k : Int) < (len : Int) := by omega
      obtain ⟨bb, off, hp0, hc1, hc2, hcell⟩ := H.out.cellAt k (by rw [HN.out]; exact hlt)
      subst hp0
      obtain ⟨y, hy⟩ : ∃ y, l.getD k 0 = y := ⟨_, rfl⟩
      rw [hy] at hcell
      have hy0 : 0 ≤ y := H0.out y (mem_getD (by rw [HN.out]; exact hlt) hy)
      have C := PR.out y hy0
      cases hb : remB rem y
      · rw [hb] at C
        have C := Lib.hid C
        have HX := Lib.hid (none_snoc (by rw [HN.out]; exact hlt) hy hP.out hb)
        clear hb hy
        go_wp2_with (go_at_call 68; ((with_reducible refine C.out.mono ?_); rintro _ _ ⟨rfl, rfl⟩))
        go_roundw
        case rel => exact ⟨k + 1, by omega, by go_num, by trivial, HX⟩
        case measure => simp [intOf] <;> omega
      · rw [hb] at C
        have C := Lib.hid C
        have HX : Hid ((k : Int) = z) := Lib.hid (by rw [← HZ.out]; exact (indexF_at (by rw [HN.out]; exact hlt) hP.out (by rw [hy]; exact hb)).1.symm)
        clear hb hy
        go_wp2_with (go_at_call 68; ((with_reducible refine C.out.mono ?_); rintro _ _ ⟨rfl, rfl⟩))
        go_ret
        exact ⟨ret_ii HX.out, rfl⟩
    · have hltz : ¬ (k : Int) < (len : Int) := by omega
      have HX : Hid ((-1 : Int) = z) := Lib.hid (by rw [← HZ.out, (indexF_no (by have := hP.out; rwa [List.take_of_length_le (by rw [HN.out]; omega)] at this)).1])
      go_wp2_with fail
      go_ret
      exact ⟨ret_ii HX.out, rfl⟩

end Go.Proofs.Ytbnhgmikegdppaa

/- Ties in a count, and the count's names, plain. -/
namespace Go.Proofs.Nums

theorem whole_d (x : Int) : (wholeQ x).d = 1 := by
  unfold wholeQ Q.mk'
  split
  · rfl
  · simp
theorem vote_d (r : List Int) (c : Int) : (vote (wholesS r) c).d = 1 := by
  unfold vote wholesS
  rw [List.getD_eq_getElem?_getD, List.getElem?_map]
  cases r[c.toNat]? with
  | none => rfl
  | some x => exact whole_d x
theorem whole_swo (r : List Int) (least : Bool) : Swo (ltV (wholesS r) least) := by
  have h := vote_d r
  unfold ltV
  cases least
  · exact ⟨fun a => lessQ_irr _, fun a b => lessQ_asy, fun a b c h1 h2 => lessQ_tr (by rw [h]; omega) h2 h1⟩
  · exact ⟨fun a => lessQ_irr _, fun a b => lessQ_asy, fun a b c h1 h2 => lessQ_tr (by rw [h]; omega) h1 h2⟩
theorem left_ne_swo (least : Bool) {vs : List (List Q)} (hs : ∀ v ∈ vs, Swo (ltV v least)) {l : List Int} (h : l ≠ []) : leftS least vs l ≠ [] := by
  induction vs generalizing l with
  | nil => exact h
  | cons v vs ih =>
    simp only [leftS]
    refine ih (fun v hv => hs v (by simp [hv])) ?_
    split
    · exact extA_ne' (hs v (by simp)) h
    · exact h
theorem mem_rounds {rule : Int} {M : List (List Q)} {v : List Q} (h : v ∈ roundsS rule M) : v ∈ M := by
  unfold roundsS at h
  split at h
  · simp at h
  · split at h
    · exact List.mem_reverse.1 h
    · exact h
theorem break_in {rule : Int} {M : List (List Q)} {t lots : List Int} {least : Bool} (hv : validS rule t lots = true) (hs : ∀ v ∈ M, Swo (ltV v least)) : (breakS rule M t lots least).1 ∈ t := by
  have hne : t ≠ [] := ((valid_eq _ _ _).1 hv).2.2.1
  have h1 := left_ne_swo least (vs := roundsS rule M) (fun v h => hs v (mem_rounds h)) hne
  have hsub := (leftS_sub least (roundsS rule M) t).subset
  rw [break_valid hv]
  split
  · exact hsub (head_mem h1)
  · exact hsub (pick_mem h1)
theorem break_ren2 {s : Int → Int} {n : Nat} (hs : Ren s n) {rule : Int} {M M' : List (List Q)} {t t' lots : List Int} {least : Bool} (hv : validS rule t lots = true) (hv' : validS rule t' (lots.map s) = true) (hn : lots.length = n) (hr : RowsRen (RowRen s n) M M') (hsw : ∀ v ∈ M, Swo (ltV v least)) (hp : t'.Perm (t.map s)) :
    (breakS rule M' t' (lots.map s) least).1 = s (breakS rule M t lots least).1 := by
  obtain ⟨_, hbl, hne, hbt, _⟩ := (valid_eq _ _ _).1 hv
  rw [hn] at hbl hbt
  have key := leftS_ren (least := least) (hr.rounds rule) hp hbt.1
  have hne2 := left_ne_swo least (vs := roundsS rule M) (fun v h => hsw v (mem_rounds h)) hne
  have hsub := (leftS_sub least (roundsS rule M) t).subset
  rw [break_valid hv, break_valid hv']
  obtain ⟨l, hl⟩ : ∃ l, leftS least (roundsS rule M) t = l := ⟨_, rfl⟩
  obtain ⟨l', hl'⟩ : ∃ l, leftS least (roundsS rule M') t' = l := ⟨_, rfl⟩
  rw [hl] at key hne2 hsub ⊢
  rw [hl'] at key ⊢
  have hlen : l'.length = l.length := by rw [key.length_eq, List.length_map]
  rw [hlen]
  split
  · rename_i h1
    obtain ⟨a, rfl⟩ := List.length_eq_one_iff.1 h1
    obtain ⟨b, rfl⟩ := List.length_eq_one_iff.1 (hlen.trans h1)
    have := key.mem_iff (a := b)
    simp at this
    simp [this]
  · exact pick_ren hs hbl.1 key hne2 (fun x hx => by
      have hx := hsub hx
      have h1 := hbt.1 x hx
      exact bal_mem (by rw [hn]; exact hbl) h1.1 (by rw [hn]; exact h1.2))

/-- A tie is broken by the rule and the lots. -/
def brkS (rule : Int) (lots : List Int) (ear : List (List Int)) (t : List Int) : Int := (breakS rule (ear.map wholesS) t lots true).1
/-- The lots of n candidates. -/
def Lots (n : Nat) (lots : List Int) : Prop := BalP n lots ∧ lots.length = n
theorem lots_valid {n : Nat} {lots : List Int} {rule : Int} {t : List Int} (hl : Lots n lots) (h1 : 1 ≤ rule) (h3 : rule ≤ 3) (hn : 1 ≤ n) (h7 : n ≤ 7) (hne : t ≠ []) (hr : ∀ c ∈ t, 0 ≤ c ∧ c < (n : Int)) (hs : t.Pairwise (· < ·)) : validS rule t lots = true := by
  rw [valid_eq, hl.2]
  exact ⟨⟨h1, h3, hn, h7⟩, hl.1, hne, ⟨hr, sorted_nodup hs⟩, hs⟩
theorem ear_swo (ear : List (List Int)) (least : Bool) : ∀ v ∈ ear.map wholesS, Swo (ltV v least) := by
  intro v hv
  obtain ⟨r, _, rfl⟩ := List.mem_map.1 hv
  exact whole_swo r least
theorem brk_in {n : Nat} {lots : List Int} {rule : Int} (hl : Lots n lots) (h1 : 1 ≤ rule) (h3 : rule ≤ 3) (hn : 1 ≤ n) (h7 : n ≤ 7) : Brk n (brkS rule lots) := fun ear _t hne hr hs =>
  break_in (lots_valid hl h1 h3 hn h7 hne hr hs) (ear_swo ear true)

/-- Renamed ballots. -/
def RenPile (s : Int → Int) (n : Nat) (gs gs' : List Grp) : Prop := (∀ g ∈ gs, ∀ c ∈ g.p, 0 ≤ c ∧ c < (n : Int)) ∧ ∀ f, sumF f gs' = sumF (fun p => f (p.map s)) gs
def RenSet (s : Int → Int) (n : Nat) (rem rem' : List Bool) : Prop := rem.length = n ∧ rem'.length = n ∧ ∀ c : Int, 0 ≤ c → c < n → remB rem' (s c) = remB rem c
theorem ren_find {s : Int → Int} {n : Nat} {R R' : Int → Bool} {p : List Int} (hp : ∀ c ∈ p, 0 ≤ c ∧ c < (n : Int)) (hR : ∀ c : Int, 0 ≤ c → c < n → R' (s c) = R c) : (p.map s).find? R' = (p.find? R).map s := by
  induction p with
  | nil => rfl
  | cons a p ih =>
    have ha := hp a (by simp)
    rw [List.map_cons, List.find?_cons, List.find?_cons, hR a ha.1 ha.2, ih fun c hc => hp c (by simp [hc])]
    split <;> rfl
theorem ren_wt {s : Int → Int} {n : Nat} (hs : Ren s n) {gs gs' : List Grp} (hg : RenPile s n gs gs') {rem rem' : List Bool} (hr : RenSet s n rem rem') {c : Int} (h0 : 0 ≤ c) (h1 : c < n) : wt (remB rem') gs' (s c) = wt (remB rem) gs c := by
  unfold wt
  rw [hg.2]
  refine sumF_congr fun g hgm => ?_
  have r := hs.rng c h0 h1
  rw [decide_eq_decide, first_iff (by omega), first_iff (by omega), ren_find (hg.1 g hgm) hr.2.2]
  constructor
  · intro h
    obtain ⟨y, h2, h3⟩ := Option.map_eq_some_iff.1 h
    have hy := hg.1 g hgm y (List.mem_of_find?_eq_some h2)
    rw [h2, hs.inj y c hy.1 hy.2 h0 h1 h3]
  · intro h
    rw [h]; rfl
theorem ren_alive {s : Int → Int} {n : Nat} (hs : Ren s n) {rem rem' : List Bool} (hr : RenSet s n rem rem') (hsur : ∀ y : Int, 0 ≤ y → y < n → ∃ c : Int, 0 ≤ c ∧ c < n ∧ s c = y) : (aliveS rem').Perm ((aliveS rem).map s) := by
  have hb : BalP n (aliveS rem) := ⟨fun c hc => by have := remB_lt (mem_alive.1 hc); rw [hr.1] at this; exact this, sorted_nodup (alive_sorted _)⟩
  refine (List.perm_ext_iff_of_nodup (sorted_nodup (alive_sorted _)) (ren_nodup hs hb)).2 fun y => ?_
  rw [mem_alive, List.mem_map]
  constructor
  · intro h
    have hy := remB_lt h
    rw [hr.2.1] at hy
    obtain ⟨c, c0, c1, rfl⟩ := hsur y hy.1 hy.2
    rw [hr.2.2 c c0 c1] at h
    exact ⟨c, mem_alive.2 h, rfl⟩
  · rintro ⟨c, hc, rfl⟩
    have h := hb.1 c hc
    rw [hr.2.2 c h.1 h.2]
    exact mem_alive.1 hc
theorem ren_low {s : Int → Int} {n : Nat} (hs : Ren s n) {gs gs' : List Grp} (hg : RenPile s n gs gs') {rem rem' : List Bool} (hr : RenSet s n rem rem') (hsur : ∀ y : Int, 0 ≤ y → y < n → ∃ c : Int, 0 ≤ c ∧ c < n ∧ s c = y) : (lowS gs' rem').Perm ((lowS gs rem).map s) := by
  unfold lowS
  refine extA_ren (ren_alive hs hr hsur) fun a ha b hb => ?_
  have ra := remB_lt (mem_alive.1 ha)
  have rb := remB_lt (mem_alive.1 hb)
  rw [hr.1] at ra rb
  unfold ltW
  rw [ren_wt hs hg hr ra.1 ra.2, ren_wt hs hg hr rb.1 rb.2]
theorem vote_of {r : List Int} {c : Int} (h0 : 0 ≤ c) (h1 : c < r.length) : vote (wholesS r) c = wholeQ (r.getD c.toNat 0) := by
  unfold vote wholesS
  rw [List.getD_eq_getElem?_getD, List.getD_eq_getElem?_getD, List.getElem?_map, List.getElem?_eq_getElem (by omega)]
  rfl
theorem votes_get {gs : List Grp} {rem : List Bool} {c : Int} (h0 : 0 ≤ c) (h1 : c < rem.length) : (votesS gs rem).getD c.toNat 0 = wt (remB rem) gs c := by
  unfold votesS
  rw [List.getD_eq_getElem?_getD, List.getElem?_map, List.getElem?_range (by omega)]
  simp only [Option.map_some, Option.getD_some]
  rw [show ((c.toNat : Nat) : Int) = c by omega]
theorem votes_len (gs : List Grp) (rem : List Bool) : (votesS gs rem).length = rem.length := by simp [votesS]
theorem ren_votes {s : Int → Int} {n : Nat} (hs : Ren s n) {gs gs' : List Grp} (hg : RenPile s n gs gs') {rem rem' : List Bool} (hr : RenSet s n rem rem') : RowRen s n (wholesS (votesS gs rem)) (wholesS (votesS gs' rem')) := by
  intro c h0 h1
  have r := hs.rng c h0 h1
  rw [vote_of r.1 (by rw [votes_len, hr.2.1]; exact r.2), vote_of h0 (by rw [votes_len, hr.1]; exact h1), votes_get r.1 (by rw [hr.2.1]; exact r.2), votes_get h0 (by rw [hr.1]; exact h1), ren_wt hs hg hr h0 h1]
/-- The order is renamed with the candidates. -/
theorem order_ren {s : Int → Int} {n : Nat} (hs : Ren s n) (hsur : ∀ y : Int, 0 ≤ y → y < n → ∃ c : Int, 0 ≤ c ∧ c < n ∧ s c = y) {gs gs' : List Grp} (hg : RenPile s n gs gs') {rule : Int} {lots : List Int} (hl : Lots n lots) (h1 : 1 ≤ rule) (h3 : rule ≤ 3) (hn : 1 ≤ n) (h7 : n ≤ 7) :
    ∀ (k : Nat) (rem rem' : List Bool) (ear ear' : List (List Int)), RenSet s n rem rem' → RowsRen (RowRen s n) (ear.map wholesS) (ear'.map wholesS) → orderS (brkS rule (lots.map s)) gs' k rem' ear' = (orderS (brkS rule lots) gs k rem ear).map s
  | 0, rem, rem', ear, ear', _, _ => rfl
  | k + 1, rem, rem', ear, ear', hr, he => by
    have hpa := ren_alive hs hr hsur
    have hpl := ren_low hs hg hr hsur
    have hlen : (aliveS rem').length = (aliveS rem).length := by rw [hpa.length_eq, List.length_map]
    have hlen2 : (lowS gs' rem').length = (lowS gs rem).length := by rw [hpl.length_eq, List.length_map]
    have hl' : Lots n (lots.map s) := ⟨⟨fun c hc => by
      obtain ⟨y, hy, rfl⟩ := List.mem_map.1 hc
      have := hl.1.1 y hy
      exact hs.rng y this.1 this.2, ren_nodup hs hl.1⟩, by rw [List.length_map]; exact hl.2⟩
    unfold orderS
    rw [hlen]
    split
    · next ha =>
      have hne : aliveS rem ≠ [] := fun e => by rw [e] at ha; simp at ha
      have hne' : aliveS rem' ≠ [] := fun e => by rw [e] at hlen; simp at hlen; omega
      have hx : exclS (brkS rule (lots.map s)) gs' rem' ear' = s (exclS (brkS rule lots) gs rem ear) := by
        unfold exclS
        rw [hlen2]
        split
        · have v1 := lots_valid hl h1 h3 hn h7 (low_ne (gs := gs) hne) (fun c hc => by have := remB_lt (mem_alive.1 (low_sub hc)); rw [hr.1] at this; exact this) (low_sorted gs rem)
          have v2 := lots_valid hl' h1 h3 hn h7 (low_ne (gs := gs') hne') (fun c hc => by have := remB_lt (mem_alive.1 (low_sub hc)); rw [hr.2.1] at this; exact this) (low_sorted gs' rem')
          exact break_ren2 hs v1 v2 hl.2 he (ear_swo ear true) hpl
        · next h2 =>
          have hn0 := low_ne (gs := gs) hne
          have hone : (lowS gs rem).length = 1 := by
            have := List.length_pos_iff.2 hn0
            omega
          obtain ⟨a, ha2⟩ := List.length_eq_one_iff.1 hone
          obtain ⟨b, hb2⟩ := List.length_eq_one_iff.1 (hlen2.trans hone)
          rw [ha2, hb2] at hpl ⊢
          have := hpl.mem_iff (a := b)
          simp at this
          simp [this]
      have hxa := low_sub (excl_low (gs := gs) (ear := ear) (by rw [hr.1]; exact brk_in hl h1 h3 hn h7) hne)
      rw [hx]
      generalize exclS (brkS rule lots) gs rem ear = x at hxa ⊢
      have rx := remB_lt (mem_alive.1 hxa)
      rw [hr.1] at rx
      have rsx := hs.rng x rx.1 rx.2
      rw [List.map_cons]
      congr 1
      refine order_ren hs hsur hg hl h1 h3 hn h7 k _ _ _ _ ⟨by rw [List.length_set]; exact hr.1, by rw [List.length_set]; exact hr.2.1, fun c c0 c1 => ?_⟩ ?_
      · rw [rem_set rsx.1, rem_set rx.1]
        simp only
        rw [hr.2.2 c c0 c1]
        congr 1
        rw [decide_eq_decide]
        exact not_congr ⟨fun e => hs.inj c x c0 c1 rx.1 rx.2 e, fun e => by rw [e]⟩
      · rw [List.map_append, List.map_append]
        exact he.snoc (ren_votes hs hg hr)
    · next ha =>
      by_cases h0 : (aliveS rem).length = 0
      · have e1 : aliveS rem = [] := List.eq_nil_of_length_eq_zero h0
        have e2 : aliveS rem' = [] := List.eq_nil_of_length_eq_zero (hlen.trans h0)
        rw [e1, e2]; rfl
      · have hone : (aliveS rem).length = 1 := by omega
        obtain ⟨a, ha2⟩ := List.length_eq_one_iff.1 hone
        obtain ⟨b, hb2⟩ := List.length_eq_one_iff.1 (hlen.trans hone)
        rw [ha2, hb2] at hpa ⊢
        have := hpa.mem_iff (a := b)
        simp at this
        simp [this]

end Go.Proofs.Nums

/- pile.First. -/
namespace Go.Proofs.Nums

theorem wt_snoc (R : Int → Bool) (gs : List Grp) (g : Grp) (c : Int) : wt R (gs ++ [g]) c = wt R gs c + (if firstC R g.p = c then g.n else 0) := by
  unfold wt
  rw [sumF_snoc]
  congr 1
  by_cases h : firstC R g.p = c <;> simp [h]
theorem votes_snoc_no {gs : List Grp} {rem : List Bool} {g : Grp} (h : g.p.find? (remB rem) = none) : votesS (gs ++ [g]) rem = votesS gs rem ∧ restS (gs ++ [g]) rem = restS gs rem + g.n := by
  have hf : firstC (remB rem) g.p = -1 := by unfold firstC; rw [h]; rfl
  refine ⟨?_, ?_⟩
  · unfold votesS
    refine List.map_congr_left fun i _ => ?_
    rw [wt_snoc, hf, if_neg (by omega), Int.add_zero]
  · unfold restS
    rw [wt_snoc, hf, if_pos rfl]
theorem votes_snoc_at {gs : List Grp} {rem : List Bool} {g : Grp} {y : Nat} (h : g.p.find? (remB rem) = some (y : Int)) : votesS (gs ++ [g]) rem = (votesS gs rem).set y ((votesS gs rem).getD y 0 + g.n) ∧ restS (gs ++ [g]) rem = restS gs rem ∧ y < rem.length := by
  have hf : firstC (remB rem) g.p = (y : Int) := by unfold firstC; rw [h]; rfl
  have hy : y < rem.length := by have := remB_lt (List.find?_some h); omega
  refine ⟨?_, ?_, hy⟩
  · refine List.ext_getElem? fun i => ?_
    rw [List.getElem?_set]
    have hl : (votesS gs rem).length = rem.length := by simp [votesS]
    have hg : (votesS gs rem).getD y 0 = wt (remB rem) gs y := by
      unfold votesS
      rw [List.getD_eq_getElem?_getD, List.getElem?_map, List.getElem?_range hy]
      rfl
    by_cases hi : i < rem.length
    · have e1 : ∀ gs, (votesS gs rem)[i]? = some (wt (remB rem) gs i) := fun gs => by
        unfold votesS
        rw [List.getElem?_map, List.getElem?_range hi]
        rfl
      rw [e1, wt_snoc, hf]
      by_cases e : y = i
      · subst e
        rw [if_pos rfl, if_pos rfl, if_pos (by rw [hl]; exact hy), hg]
      · rw [if_neg e, if_neg (by omega), e1, Int.add_zero]
    · have e1 : ∀ gs, (votesS gs rem)[i]? = none := fun gs => List.getElem?_eq_none (by simp [votesS]; omega)
      rw [e1, if_neg (by omega), e1]
  · unfold restS
    rw [wt_snoc, hf, if_neg (by omega), Int.add_zero]
theorem wt_tot {R : Int → Bool} {gs : List Grp} (hp : PosG gs) (c : Int) : 0 ≤ wt R gs c ∧ wt R gs c ≤ totS gs := ⟨sumF_nn hp, sumF_le hp fun _ _ _ => rfl⟩
theorem tot_take {gs : List Grp} (hp : PosG gs) (k : Nat) : totS (gs.take k) ≤ totS gs := by
  have e : totS gs = totS (gs.take k) + totS (gs.drop k) := by
    conv => lhs; rw [← List.take_append_drop k gs]
    unfold totS sumF
    rw [List.map_append, List.sum_append]
  have : 0 ≤ totS (gs.drop k) := sumF_nn fun x hx => hp x (List.mem_of_mem_drop hx)
  omega
theorem pos_take {gs : List Grp} (hp : PosG gs) (k : Nat) : PosG (gs.take k) := fun x hx => hp x (List.mem_of_mem_take hx)
theorem votes_nil (rem : List Bool) : votesS [] rem = List.replicate rem.length 0 := by
  unfold votesS
  refine List.ext_getElem? fun i => ?_
  rw [List.getElem?_map, List.getElem?_replicate]
  by_cases h : i < rem.length
  · rw [List.getElem?_range h, if_pos h]; rfl
  · rw [List.getElem?_eq_none (by simpa using h), if_neg h]; rfl

end Go.Proofs.Nums
namespace Go.Proofs.Ytbnhgmikegdppaa
open Go.RowKit Go.Proofs.Kit Go.Proofs.Nums

set_option maxRecDepth 100000 in
set_option maxHeartbeats 8000000 in
theorem first_c {v vr : Value} {gs : List Grp} {rem : List Bool} {w : World} (hv : PileAt w v gs) (hr : BoolsAt w vr rem) (hp : PileP 7 gs) (h1 : 1 ≤ rem.length) (h7 : rem.length ≤ 7) :
    Calls Try.prog 39 #[v, vr] w fun e w' => ∃ v', e = .returned (.tuple #[v', .int .i64 (restS gs rem)]) ∧ IntsAt w' v' (votesS gs rem) ∧ Fresh w.heap.size v' ∧ Below w.heap.size w w' := by
  have HP := Lib.hid hp
  obtain ⟨pr, cr, rfl⟩ := hr.shape
  have hbW : Below w.heap.size w (w.alloc (.cells #[.slice pr rem.length cr] 46)) := (Below.refl _ _).alloc (Nat.le_refl _) _
  have KB := Blk.new w #[.slice pr rem.length cr] 46
  obtain ⟨W, hW⟩ : ∃ W, w.alloc (.cells #[.slice pr rem.length cr] 46) = W := ⟨_, rfl⟩
  rw [hW] at hbW KB
  have k0 : W.cell? ⟨w.heap.size, 0, none⟩ = some (.slice pr rem.length cr) := KB.2.1 0
  have HV := Lib.hid (hv.keep hbW)
  have HR := Lib.hid (hr.keep hbW)
  have AN := isany_c HV.out
  rw [show pileS 7 gs = true from pile_true.2 hp] at AN
  have AN := Lib.hid AN
  have hlm := SliceOf.len hv
  obtain ⟨p, c, rfl⟩ := hv.shp
  obtain ⟨len, hlen⟩ : ∃ n, gs.length = n := ⟨_, rfl⟩
  obtain ⟨n, hn⟩ : ∃ n, rem.length = n := ⟨_, rfl⟩
  have HN := Lib.hid hlen
  have HM := Lib.hid hn
  rw [hlen] at HV hlm AN ⊢
  rw [hn] at HR h1 h7 k0 KB hW ⊢
  have KB := Lib.hid KB
  clear hv hr hp hlen hn
  have n7 : ¬ (7 : Int) < (n : Int) := by omega
  go_enter Try.func39, Try.ntmps39
  go_wp2_with (first
    | (go_at_call 67; ((with_reducible refine AN.out.mono ?_); rintro _ w1 ⟨rfl, hb1⟩; have k1 := cell_keep hb1 k0; have hB1 := bel2' hbW hb1))
    | (at_make; go_must (refine make_any erI rfl rfl rfl rfl (by omega) (by omega) (by omega) ?_); intro w7 hown7 hb7))
  rw [show ((n : Int)).toNat = n by omega] at *
  have own7 := OwnInt.made hown7
  clear hown7
  have hB7 := bel2' hB1 hb7
  have hWs : w.heap.size < w1.heap.size := Nat.lt_of_lt_of_le KB.out.1 hb1.size
  have HW1 : Hid (∀ w', Below w1.heap.size w1 w' → Below W.heap.size W w') := Lib.hid (fun w' h => bel2' hb1 h)
  obtain ⟨G, hG⟩ : ∃ G, w1.heap.size = G := ⟨_, rfl⟩
  have HGe := Lib.hid hG
  rw [hG] at own7 hb7 hWs ⊢
  clear AN
  go_loopw [5, 22] (fun sv iv wr => ∃ k : Nat, ∃ s : Int, k ≤ len ∧ iv = .int .i64 k ∧ sv = .int .i64 s ∧ Below G w1 wr ∧ OwnInt wr G G n (votesS (gs.take k) rem) ∧ Hid (s = restS (gs.take k) rem) ∧ 0 ≤ s ∧ s ≤ 100000) (fun _ iv _ => len - (intOf iv).toNat)
  case atStart => exact ⟨0, 0, by omega, rfl, rfl, hb7, by rw [List.take_zero, votes_nil, HM.out]; exact own7, Lib.hid rfl, by omega, by omega⟩
  case round =>
    obtain ⟨k, s, hk, rfl, rfl, hbel, hO, hS, s0, s1⟩ := hrel
    have hbelW : Below W.heap.size W wr := HW1.out wr (by rw [HGe.out]; exact hbel)
    by_cases hlt : k < len
    · have hltz : (k : Int) < (len : Int) := by omega
      obtain ⟨g, hg⟩ : ∃ g, gs.getD k g0 = g := ⟨_, rfl⟩
      obtain ⟨bb, off, q, m, d, hp0, hc1, hc2, cl0, cl1, HI, hm⟩ := (HV.out.keep hbelW).cellAt (by rw [HN.out]; exact hlt) hg
      subst hp0
      have hgm : g ∈ gs := mem_getG (by rw [HN.out]; exact hlt) hg
      have hbal := HP.out.bal g hgm
      have hpos := HP.out.pos g hgm
      have htk := take_snoc_g (l := gs) (k := k) (by rw [HN.out]; exact hlt)
      rw [hg] at htk
      have htb : totS (gs.take k) + g.n ≤ 100000 := by
        have h2 := tot_take HP.out.pos (k + 1)
        rw [htk, tot_snoc] at h2
        have := HP.out.tot
        omega
      have hpk := pos_take HP.out.pos k
      obtain ⟨y, hy⟩ : ∃ y, g.n = y := ⟨_, rfl⟩
      rw [hy] at cl1 hpos htb
      have HTK := Lib.hid htk
      have HY := Lib.hid hy
      have HIh := Lib.hid HI
      have HMm := Lib.hid hm
      have hbl : Below wr.heap.size wr (wr.alloc (.cells #[.slice q m d, .int .i64 y] 85)) := (Below.refl _ _).alloc (Nat.le_refl _) _
      have KX := Blk.new wr #[.slice q m d, .int .i64 y] 85
      obtain ⟨X, hX⟩ : ∃ X, wr.alloc (.cells #[.slice q m d, .int .i64 y] 85) = X := ⟨_, rfl⟩
      rw [hX] at hbl KX
      have hsz : w.heap.size < wr.heap.size := by have := hbelW.size; have := KB.out.1; omega
      have x0 : X.cell? ⟨wr.heap.size, 0, none⟩ = some (.slice q m d) := KX.2.1 0
      have x1 : X.cell? ⟨wr.heap.size, 1, none⟩ = some (.int .i64 y) := KX.2.1 1
      have hbX : Below W.heap.size W X := bel2' hbelW hbl
      have kX : X.cell? ⟨w.heap.size, 0, none⟩ = some (.slice pr n cr) := cell_keep hbX k0
      have IC := Lib.hid (indexfirst_c (rem := rem) (HIh.out.keep hbl) (fun x hx => (hbal.1 x hx).1) kX (HR.out.keep hbX))
      have hOX := hO.keep hbl
      have hGX : Below G w1 X := hbel.trans (hbl.mono (by have := hbel.size; rw [← HGe.out] at *; omega))
      rcases indexF_cases (remB rem) g.p with ⟨e1, e2⟩ | ⟨i, i0, e1, e2⟩
      · rw [e1] at IC
        obtain ⟨v1, v2⟩ := votes_snoc_no (gs := gs.take k) e2
        have hb := (wt_tot (R := remB rem) hpk (-1)).2
        have hws : IntKind.i64.wrap (s + y) = s + y := w64 (by omega) (by have := hS.out; unfold restS at this; omega)
        have hsb : s + y ≤ 100000 := by have := hS.out; unfold restS at this; omega
        have HO2 : Hid (OwnInt X G G n (votesS (gs.take (k + 1)) rem)) := Lib.hid (by rw [HTK.out, v1]; exact hOX)
        have HS2 : Hid (s + y = restS (gs.take (k + 1)) rem) := Lib.hid (by rw [HTK.out, v2, HY.out, hS.out])
        clear e1 e2 v1 v2 hb htk hg hy hm HI hO hOX hbal
        go_wp2_with (go_at_call 50; ((with_reducible refine IC.out.mono ?_); rintro _ _ ⟨rfl, rfl⟩))
        go_roundw
        case rel => exact ⟨k + 1, s + y, by omega, by go_num, rfl, hGX, HO2.out, HS2, by omega, hsb⟩
        case measure => simp [intOf] <;> omega
      · rw [e1] at IC
        obtain ⟨yv, hyv⟩ : ∃ z, g.p.getD i 0 = z := ⟨_, rfl⟩
        rw [hyv] at e2
        have hym := mem_getD i0 hyv
        have hy0 := (hbal.1 yv hym).1
        obtain ⟨yn, hyn⟩ : ∃ j : Nat, yv = j := ⟨yv.toNat, by omega⟩
        subst hyn
        obtain ⟨v1, v2, v3⟩ := votes_snoc_at (gs := gs.take k) e2
        rw [HM.out] at v3
        obtain ⟨b2, o2, hq, _, _, cy⟩ := (HIh.out.keep hbl).cellAt i i0
        subst hq
        rw [hyv] at cy
        have cv := hOX.cell v3
        have hg2 : (votesS (gs.take k) rem).getD yn 0 = wt (remB rem) (gs.take k) yn := by
          have := votes_get (gs := gs.take k) (rem := rem) (c := (yn : Int)) (by omega) (by rw [HM.out]; omega)
          exact this
        have hb := wt_tot (R := remB rem) hpk yn
        obtain ⟨u, hu⟩ : ∃ u, (votesS (gs.take k) rem).getD yn 0 = u := ⟨_, rfl⟩
        rw [hu] at hg2 cv v1
        rw [← hg2] at hb
        have hws : IntKind.i64.wrap (u + y) = u + y := w64 (by omega) (by omega)
        have hfr := hOX.free yn
        have hput := (hOX.keep ((Below.refl _ _).drew)).put yn (u + y)
        have HO2 : Hid (OwnInt (X.drew.setCell ⟨G, yn, none⟩ (.int .i64 (u + y))) G G n (votesS (gs.take (k + 1)) rem)) := Lib.hid (by rw [HTK.out, v1, HY.out]; exact hput.1)
        have HS2 : Hid (s = restS (gs.take (k + 1)) rem) := Lib.hid (by rw [HTK.out, v2, hS.out])
        have HB2 : Hid (Below G w1 (X.drew.setCell ⟨G, yn, none⟩ (.int .i64 (u + y)))) := Lib.hid (hGX.drew.setCell (Nat.le_refl _) _)
        have iz : (i : Int) < (m : Int) := by rw [HMm.out]; omega
        have yz : (yn : Int) < (n : Int) := by omega
        have iz0 : ¬ (i : Int) < 0 := by omega
        clear e1 e2 v1 v2 hb htk hg hy hm HI hO hOX hbal hput hu hg2 hyv hym
        go_wp2_with (go_at_call 50; ((with_reducible refine IC.out.mono ?_); rintro _ _ ⟨rfl, rfl⟩))
        go_region
        all_goals
          go_wp2_with fail
          go_roundw
          case rel => exact ⟨k + 1, s, by omega, by go_num, rfl, HB2.out, HO2.out, HS2, s0, s1⟩
          case measure => simp [intOf] <;> omega
    · have hltz : ¬ (k : Int) < (len : Int) := by omega
      have e : gs.take k = gs := List.take_of_length_le (by rw [HN.out]; omega)
      rw [e] at hO hS
      have hO := Lib.hid hO
      go_wp2_with fail
      go_ret2
      exact ⟨_, by rw [hS.out]; rfl, hO.out.read, fun b hb => by (have : G = b := by simpa [Value.ownBlock] using hb); omega, hbW.trans (hbelW.mono (by have := hbW.size; omega))⟩

end Go.Proofs.Ytbnhgmikegdppaa

/- The state of a count; (*count).left. -/
namespace Go.Proofs.Nums

/-- Who remains of the first k. -/
def aliveTo (rem : List Bool) (k : Nat) : List Int := ((List.range k).map fun i : Nat => (i : Int)).filter (remB rem)
theorem aliveTo_all (rem : List Bool) : aliveTo rem rem.length = aliveS rem := rfl
theorem aliveTo_yes {rem : List Bool} {k : Nat} (h : remB rem k = true) : aliveTo rem (k + 1) = aliveTo rem k ++ [(k : Int)] := by
  unfold aliveTo
  rw [List.range_succ, List.map_append, List.filter_append]
  simp [h]
theorem aliveTo_no {rem : List Bool} {k : Nat} (h : remB rem k = false) : aliveTo rem (k + 1) = aliveTo rem k := by
  unfold aliveTo
  rw [List.range_succ, List.map_append, List.filter_append]
  simp [h]
theorem aliveTo_len (rem : List Bool) (k : Nat) : (aliveTo rem k).length ≤ k := by
  unfold aliveTo
  exact Nat.le_trans (List.length_filter_le _ _) (by simp)

end Go.Proofs.Nums
namespace Go.Proofs.Ytbnhgmikegdppaa
open Go.RowKit Go.Proofs.Kit Go.Proofs.Nums

/-- The cells of irv's count: contest (9), groups, lots, remain, earlier. -/
def cntA (c0 c1 c2 c3 c4 c5 : Value) (ties : Int) (c7 c8 vg vl vr ve : Value) : Array Value := #[c0, c1, c2, c3, c4, c5, .int .i64 ties, c7, c8, vg, vl, vr, ve]

set_option maxHeartbeats 2000000 in
theorem left_c {B : Nat} {c0 c1 c2 c3 c4 c5 c7 c8 vg vl vr ve : Value} {ties : Int} {rem : List Bool} {w : World} (hB : Blk B (cntA c0 c1 c2 c3 c4 c5 ties c7 c8 vg vl vr ve) w) (hr : BoolsAt w vr rem) (h7 : rem.length ≤ 7) :
    Calls Try.prog 49 #[.pointer (some ⟨B, 0, none⟩)] w fun e w' => ∃ v', e = .returned v' ∧ IntsAt w' v' (aliveS rem) ∧ Fresh w.heap.size v' ∧ Below w.heap.size w w' := by
  have H := Lib.hid hr
  obtain ⟨p, c, rfl⟩ := hr.shape
  have k11 : w.cell? ⟨B, 11, none⟩ = some (.slice p rem.length c) := hB.2.1 11
  have kfz : B < w.heap.size := hB.1
  obtain ⟨len, hlen⟩ : ∃ n, rem.length = n := ⟨_, rfl⟩
  have HN := Lib.hid hlen
  rw [hlen] at H k11 h7
  clear hr hlen hB
  go_enter Try.func49, Try.ntmps49
  go_wp2_with fail
  go_loopw [3, 11] (fun ov iv wr => ∃ k m : Nat, k ≤ len ∧ iv = .int .i64 k ∧ wr.ownsRow w.heap.size 3 1 ov m ((aliveTo rem k).map (Value.int .i64)) ∧ Below w.heap.size w wr) (fun _ iv _ => len - (intOf iv).toNat)
  case atStart => exact ⟨0, 0, by omega, rfl, (World.ownsRow_nil _ _ _ _ : w.ownsRow w.heap.size 3 1 (.slice none 0 0) 0 []), Below.refl _ _⟩
  case round =>
    obtain ⟨k, m, hk, rfl, hown, hbel⟩ := hrel
    by_cases hlt : k < len
    · have hltz : (k : Int) < (len : Int) := by omega
      have hm2 : m ≤ k := by
        have h1 := hown.1
        have h2 := aliveTo_len rem k
        rw [List.length_map] at h1
        omega
      obtain ⟨bb, off, hp0, hc1, hc2, hcell⟩ := (H.out.keep hbel).cellAt k (by rw [HN.out]; exact hlt)
      subst hp0
      rw [← remB_at] at hcell
      cases hb : remB rem k
      · rw [hb] at hcell
        have HR := Lib.hid (aliveTo_no hb)
        clear hb
        go_wp2_with fail
        go_roundw
        case rel => exact ⟨k + 1, m, by omega, by go_num, by rw [HR.out]; exact hown, hbel⟩
        case measure => simp [intOf] <;> omega
      · rw [hb] at hcell
        have HR := Lib.hid (aliveTo_yes hb)
        clear hb
        go_wp2_with (at_builtin; go_must (refine append_one erI rfl rfl hown rfl rfl rfl (by simp [Value.oneCell']) (by omega) (by omega) hbel.size ?_); intro v' w1 hown1 _ hb1 hne1)
        go_roundw
        case rel =>
          refine ⟨k + 1, m + 1, by omega, by go_num, ?_, hbel.trans hb1⟩
          rw [HR.out, List.map_append]
          exact hown1
        case measure => simp [intOf] <;> omega
    · obtain rfl : k = len := by omega
      have HI : Hid (IntsAt wr u3 (aliveS rem)) := Lib.hid (by rw [← aliveTo_all, HN.out]; exact ints_owned hown)
      have HF := Lib.hid (Fresh.owned hown)
      clear hown
      go_wp2_with fail
      go_ret
      exact ⟨_, rfl, HI.out, HF.out, hbel⟩

end Go.Proofs.Ytbnhgmikegdppaa

/- nat.Clone, Norm and Of hand back new memory. -/
namespace Go.Proofs.Ytbnhgmikegdppaa
open Go.RowKit Go.Proofs.Kit Go.Proofs.Nums

set_option maxHeartbeats 1000000 in
theorem clone_f (v : Value) (l : List Nat) (w : World) (h : NatAt w v l) (hl : l.length ≤ 1000000000) :
    Calls Try.prog 113 #[v] w fun e w' => ∃ v', e = .returned v' ∧ NatAt w' v' l ∧ Fresh w.heap.size v' ∧ Below w.heap.size w w' := by
  have own0 : ∀ w : World, (w.alloc (.cells #[] 127)).ownsRow w.heap.size 127 1 (.slice (some ⟨w.heap.size, 0, none⟩) 0 0) 0 [] := fun w =>
    World.ownsRow_lit w #[] 0 (Nat.le_refl _) (Nat.zero_le _) rfl
  rcases h.cases with ⟨rfl, p, cap, rfl, _, h3⟩ | ⟨h1, b, off, cap, rfl, hc, hm, hb, hcell⟩
  · cases p with
    | none =>
      obtain rfl := h3 rfl
      have H := Lib.hid h
      clear h hl
      have heqn := fun (w : World) (a : Option Addr) (n c : Nat) => Lib.run_eql_slice_nil (P := Try.prog) w 50 127 a n c 0 0 Try.underlying50
      go_enter Try.func113, Try.ntmps113
      go_wp2_with fail
      go_ret
      exact ⟨_, rfl, NatAt.nil w, fun b hb => by simp [Value.ownBlock] at hb, Below.refl _ _⟩
    | some q =>
      have H := Lib.hid h
      have O := Lib.hid (own0 w)
      clear h own0 hl
      have heqn := fun (w : World) (a : Option Addr) (n c : Nat) => Lib.run_eql_slice_nil (P := Try.prog) w 50 127 a n c 0 0 Try.underlying50
      go_enter Try.func113, Try.ntmps113
      go_wp2_with (at_builtin; (refine append_row er50 (base := w.heap.size) (n := 0) (xs := []) (news := []) (by rfl) (by rfl) O.out (by rfl) (by rfl) (by rfl) (fun j u h => by simp at h) (fun u h => by simp at h) (by omega) (by omega) (by simp) ?_); intro v' w1 hown1 _ hb1)
      go_ret
      refine ⟨_, rfl, ⟨by simpa using RowAt.owned hown1, Lim.nil⟩, Fresh.owned hown1, (below_new hb1)⟩
  · have H := Lib.hid h
    have O := Lib.hid (own0 w)
    have hcells : ∀ j u, (l.map limbV)[j]? = some u → (w.alloc (.cells #[] 127)).cell? ((⟨b, off, none⟩ : Addr).add j) = some u := fun j u hj => by
      rw [Addr.add_lit]
      refine cell_alloc_old ?_
      rw [List.getElem?_map] at hj
      cases hlj : l[j]? with
      | none => rw [hlj] at hj; simp at hj
      | some x =>
        have hjl := (List.getElem?_eq_some_iff.1 hlj).1
        rw [hlj] at hj
        simp at hj
        rw [hcell j hjl, nth_lt hjl, (List.getElem?_eq_some_iff.1 hlj).2, ← hj]
        rfl
    have HCS := Lib.hid hcells
    have hone : ∀ u ∈ l.map limbV, u.oneCell' = true := fun u hu => by
      obtain ⟨x, _, rfl⟩ := List.mem_map.1 hu; rfl
    have HO := Lib.hid hone
    clear h hcell own0 hcells hone
    have heqn := fun (w : World) (a : Option Addr) (n c : Nat) => Lib.run_eql_slice_nil (P := Try.prog) w 50 127 a n c 0 0 Try.underlying50
    go_enter Try.func113, Try.ntmps113
    go_wp2_with (at_builtin; go_must (refine append_row er50 (base := w.heap.size) (n := 0) (xs := []) (news := l.map limbV) (by rfl) (by rfl) O.out (by rfl) (by rfl) (by rw [List.length_map, Nat.mul_one]) HCS.out HO.out (by omega) (by omega) (by simp) ?_); intro v' w1 hown1 _ hb1)
    go_ret
    refine ⟨_, rfl, ⟨by simpa using RowAt.owned hown1, H.out.2⟩, Fresh.owned hown1, (below_new hb1)⟩



set_option maxHeartbeats 1000000 in
theorem norm_f (v : Value) (l : List Nat) (w : World) (h : NatAt w v l) (hl : l.length ≤ 1000000000) :
    Calls Try.prog 106 #[v] w fun e w' => ∃ v', e = .returned v' ∧ NatAt w' v' (limbs (val l)) ∧ Fresh w.heap.size v' ∧ Below w.heap.size w w' := by
  have hlen : (limbs (val l)).length ≤ 1000000000 := Nat.le_trans (limbs_len_le _ _ (val_lt l h.2)) hl
  have H := Lib.hid h
  clear h
  go_enter Try.func106, Try.ntmps106
  go_wp2_with (first
    | (go_at_call 110; refine (trim_any _ _ _ H.out).mono ?_; rintro e w1 ⟨v1, rfl, hv1, rfl⟩)
    | (go_at_call 113; refine (clone_f _ _ _ hv1 hlen).mono ?_; rintro e w2 ⟨v2, rfl, hv2, hf2, hb2⟩))
  go_ret
  exact ⟨_, rfl, hv2, hf2, hb2⟩

set_option maxHeartbeats 1000000 in
theorem of_f (n : Nat) (w : World) (hn : n < 18446744073709551616) :
    Calls Try.prog 94 #[.int .u64 n] w fun e w' => ∃ v', e = .returned v' ∧ NatAt w' v' (limbs n) ∧ Fresh w.heap.size v' ∧ Below w.heap.size w w' := by
  have hlow : n % 4294967296 < 4294967296 := Nat.mod_lt _ (by omega)
  have hhigh : n / 4294967296 < 4294967296 := by omega
  have hA := NatAt.lit2 w (n % 4294967296) (n / 4294967296) hlow hhigh
  have hv : val [n % 4294967296, n / 4294967296] = n := by simp only [val]; omega
  have HA := Lib.hid hA
  have HV := Lib.hid hv
  clear hA hv
  go_enter Try.func94, Try.ntmps94
  go_wp2_with (go_at_call 106; refine (norm_f _ _ _ HA.out (by simp)).mono ?_; rw [HV.out]; rintro e w1 ⟨v1, rfl, hv1, hf1, hb1⟩)
  go_ret
  exact ⟨_, rfl, hv1, hf1.mono (by simp), below_on hb1⟩

end Go.Proofs.Ytbnhgmikegdppaa

/- nat.Div by one limb: the quotient is new memory. -/
namespace Go.Proofs.Ytbnhgmikegdppaa
open Go.RowKit Go.Proofs.Kit Go.Proofs.Nums

set_option maxHeartbeats 2000000 in
theorem div_f {va vb : Value} {n m L M : Nat} {w : World} (ha : Num w va n L) (hb : Num w vb m M) (hL : L ≤ 1000000) (hnm : m ≤ n) (hm0 : 0 < m) (hm1 : m < 4294967296) :
    Calls Try.prog 105 #[va, vb] w fun e w' => ∃ vq vr, e = .returned (.tuple #[vq, vr, .bool true]) ∧ Nrm w' vq (n / m) L ∧ Fresh w.heap.size vq ∧ Below w.heap.size w w' := by
  have hnL : n / m < 4294967296 ^ L := Nat.lt_of_le_of_lt (Nat.div_le_self _ _) ha.lt
  have hmM : n % m < 4294967296 ^ M := Nat.lt_trans (Nat.mod_lt _ hm0) hb.lt
  obtain ⟨a, h1, hn, h3⟩ := ha
  obtain ⟨b, k1, hm, k3⟩ := hb
  have ca := trim_any va a w h1
  have cb := trim_any vb b w k1
  rw [hn] at ca
  rw [hm] at cb
  have lx := limbs_len_le (val a) a.length (val_lt a h1.2)
  rw [hn] at lx
  have hlim : limbs m = [m] := by rw [limbs_pos m (by omega), Nat.mod_eq_of_lt hm1, Nat.div_eq_of_lt hm1]; rfl
  rw [hlim] at cb
  obtain ⟨c, hc⟩ : ∃ c, cmpN n m = c := ⟨_, rfl⟩
  have hc0 : 0 ≤ c := by rw [← hc]; unfold cmpN; rw [if_neg (by omega)]; split <;> omega
  have CM : Hid (∀ v1 v2 w, NatAt w v1 (limbs n) → NatAt w v2 [m] → Calls Try.prog 112 #[v1, v2] w fun e w' => e = .returned (.int .i64 c) ∧ Below w.heap.size w w') := Lib.hid (fun v1 v2 w h h' => by
    have := cmp_any v1 v2 _ _ w h h' (by omega) (by simp)
    rw [val_limbs, ← hlim, val_limbs, hc] at this; exact this)
  have SD : Hid (∀ v w, NatAt w v (limbs n) → Calls Try.prog 114 #[v, .int .u64 m] w fun e w' => ∃ v', e = .returned (.tuple #[v', .int .u64 ((n % m : Nat) : Int)]) ∧ (∃ q, NatAt w' v' q ∧ val q = n / m ∧ q.length ≤ 1000000) ∧ Below w.heap.size w w') := Lib.hid (fun v w h => by
    have := sdiv_any v _ m w h (by omega) hm0 hm1
    rw [val_limbs] at this
    exact this.mono fun e w' ⟨v', e1, ⟨q, q1, q2, q3, _⟩, e3⟩ => ⟨v', e1, ⟨q, q1, q2, by omega⟩, e3⟩)
  have NO : Hid (∀ v w q, NatAt w v q → Hid (val q = n / m ∧ q.length ≤ 1000000) → Calls Try.prog 106 #[v] w fun e w' => ∃ v', e = .returned v' ∧ NatAt w' v' (limbs (n / m)) ∧ Fresh w.heap.size v' ∧ Below w.heap.size w w') := Lib.hid (fun v w q h h' => by
    have := norm_f v q w h (by have := h'.out.2; omega)
    rw [h'.out.1] at this; exact this)
  obtain ⟨R, hR⟩ : ∃ R, n % m = R := ⟨_, rfl⟩
  rw [hR] at SD
  have OF : Hid (∀ w, Calls Try.prog 94 #[.int .u64 R] w fun e w' => ∃ v', e = .returned v' ∧ NatAt w' v' (limbs R) ∧ Below w.heap.size w w') := Lib.hid (fun w => of_any R w (by have := Nat.mod_lt n hm0; omega))
  have CA := Lib.hid ca
  have CB := Lib.hid cb
  have HF : Hid (n % m = R ∧ n / m < 4294967296 ^ L ∧ n % m < 4294967296 ^ M) := Lib.hid ⟨hR, hnL, hmM⟩
  clear ca cb h1 k1 hn hm h3 k3 hnL hmM hnm lx hR hlim hc
  go_enter Try.func105, Try.ntmps105
  go_wp2_with (first
    | (go_at_call 110; ((with_reducible refine CA.out.mono ?_); rintro e w1 ⟨v1, rfl, hv1, rfl⟩))
    | (go_at_call 110; ((with_reducible refine CB.out.mono ?_); rintro e w2 ⟨v2, rfl, hv2, rfl⟩; obtain ⟨p2, c2, rfl⟩ := hv2.shape; rw [show [m].length = 1 from rfl] at hv2))
    | (go_at_call 112; ((with_reducible refine (CM.out _ _ _ hv1 hv2).mono ?_); rintro e w3 ⟨rfl, hb3⟩; have hv2b := hv2.keep hb3; obtain ⟨b1, o1, rfl, hk1, hm1, q1⟩ := hv2b.cellAt 0 (by simp); rw [show nth [m] 0 = m from rfl, Nat.add_zero] at q1; rw [show [m].length = 1 from rfl] at hk1; clear hv2b hv2))
    | (go_at_call 114; ((with_reducible refine (SD.out _ _ (hv1.keep hb3)).mono ?_); rintro e w4 ⟨v4, rfl, ⟨q, hq1, hq2⟩, hb4⟩; have hb4' := bel2' hb3 hb4; have HQ2 := Lib.hid hq2; clear hq2))
    | (go_at_call 106; ((with_reducible refine (NO.out _ _ _ hq1 HQ2).mono ?_); rintro e w5 ⟨v5, rfl, hv5, hf5, hb5⟩; have hb5' := bel2' hb4' hb5))
    | (go_at_call 94; ((with_reducible refine (OF.out _).mono ?_); rintro e w6 ⟨v6, rfl, hv6, hb6⟩; have hb6' := bel2' hb5' hb6)))
  go_ret3
  obtain ⟨f1, f2, f3⟩ := HF.out
  exact ⟨_, _, rfl, ⟨hv5.keep hb6, f2⟩, hf5.mono hb4'.size, hb6'⟩

end Go.Proofs.Ytbnhgmikegdppaa

/- ratio.Of hands back new memory. -/
namespace Go.Proofs.Ytbnhgmikegdppaa
open Go.RowKit Go.Proofs.Kit Go.Proofs.Nums

theorem nrm_one_f (w : World) : Calls Try.prog 94 #[.int .u64 1] w fun e w' => ∃ v', e = .returned v' ∧ Nrm w' v' 1 2 ∧ Fresh w.heap.size v' ∧ Below w.heap.size w w' :=
  (of_f 1 w (by omega)).mono fun _ _ ⟨v, h1, h2, h3, h4⟩ => ⟨v, h1, ⟨h2, by decide⟩, h3, h4⟩
set_option maxHeartbeats 1000000 in
theorem zero_f (w : World) : Calls Try.prog 103 #[] w (GivesF ⟨false, 0, 1⟩ 2 w) := by
  have OF := Lib.hid nrm_one_f
  go_enter Try.func103, Try.ntmps103
  go_wp2_with (go_at_call 94; ((with_reducible refine (OF.out _).mono ?_); rintro e w1 ⟨v1, rfl, hv1, hf1, hb1⟩; obtain ⟨p1, c1', rfl⟩ := hv1.1.shape; have c0 := new_cell hb1 0; have c1 := new_cell hb1 1; have c2 := new_cell hb1 2; have f0 := new_free hb1 0; have f1 := new_free hb1 1; have f2 := new_free hb1 2; simp at c0 c1 c2))
  have HN := Lib.hid (noLimb_new hb1 (noLimb3 (by simp) (by simp) (by simp)))
  have hf1 := Lib.hid (hf1.mono (B' := w.heap.size) (by simp))
  refine bodyPost_ret (v := .agg #[.bool false, .slice none 0 0, .slice p1 (limbs 1).length c1']) (by simp [results, Try.results103, go_sem, c0, c1, c2]) rfl ?_
  exact ⟨_, _, _, _, _, _, rfl, ⟨_, _, rfl, (nrm_nil' _ _).off (heap_set3 _ _ _ _ _) HN.out, hv1.off (heap_set3 _ _ _ _ _) HN.out⟩, fun b hb => by simp [Value.ownBlock] at hb, hf1.out, below_set3 (below_on hb1) (Nat.le_refl _) _ _ _⟩

set_option maxHeartbeats 2000000 in
theorem make_f {vn vd : Value} {n : Nat} {w : World} (hn : Num w vn n 2) (hd : Num w vd 1 2) :
    Calls Try.prog 92 #[.bool false, vn, vd] w (GivesF (Q.mk' false n 1) 2 w) := by
  have Z := Lib.hid zero_f
  have ka : ∀ {o : Obj} {v : Value} {n : Nat}, Num w v n 2 → Num (w.alloc o) v n 2 := fun h => h.keep ((Below.refl _ _).alloc (Nat.le_refl _) _)
  have hn' := fun o => ka (o := o) hn
  have hd' := fun o => ka (o := o) hd
  have HN := Lib.hid hn'
  have HD := Lib.hid hd'
  clear hn hd hn' hd' ka
  rcases Nat.eq_zero_or_pos n with h0 | h0
  · subst h0
    rw [Q.mk'_zero (.inl rfl)]
    go_enter Try.func92, Try.ntmps92
    go_wp2_with (first
      | (go_at_call 102; ((with_reducible refine (bits_zero_n (HN.out _) (by omega)).mono ?_); rintro e w1 ⟨rfl, hb1⟩))
      | (go_at_call 103; ((with_reducible refine (Z.out _).mono ?_); rintro e w2 ⟨p1, l1, k1, p2, l2, k2, rfl, hv2, hf1, hf2, hb2⟩; obtain ⟨vn', vd', e9, hvn, hvd⟩ := hv2; simp at e9; obtain ⟨rfl, rfl⟩ := e9; have hb2' := bel2' hb1 hb2; have hs1 := hb1.size; have c0 := new_cell hb2' 0; have c1 := new_cell hb2' 1; have c2 := new_cell hb2' 2; have f0 := new_free hb2' 0; have f1 := new_free hb2' 1; have f2 := new_free hb2' 2; simp at c0 c1 c2 hs1)))
    have hf1 := Lib.hid (hf1.mono (B' := w.heap.size) (by omega))
    have hf2 := Lib.hid (hf2.mono (B' := w.heap.size) (by omega))
    refine bodyPost_ret (v := .agg #[.bool false, .slice p1 l1 k1, .slice p2 l2 k2]) (by simp [results, Try.results92, go_sem, c0, c1, c2]) rfl ?_
    obtain ⟨g1, g2⟩ := ret3 (q := ⟨false, 0, 1⟩) hb2' (Nat.le_refl _) (Below.refl _ _) hvn hvd _ rfl
    exact ⟨_, _, _, _, _, _, rfl, g1, hf1.out, hf2.out, g2⟩
  · rw [Q.mk'_pos h0 (by omega)]
    have HP := Lib.hid h0
    clear h0
    have e1 : Nat.gcd n 1 = 1 := Nat.gcd_one_right n
    have GC : Hid (∀ va vb w, Num w va n 2 → Num w vb 1 2 → Calls Try.prog 104 #[va, vb] w fun e w' => ∃ v', e = .returned v' ∧ Nrm w' v' 1 2 ∧ Below w.heap.size w w') := Lib.hid (fun va vb w h h' => by have := gcd_num h h' (by omega); rw [e1] at this; exact this)
    rw [e1]
    have D1 : Hid (∀ va vb w, Num w va n 2 → Num w vb 1 2 → Calls Try.prog 105 #[va, vb] w fun e w' => ∃ vq vr, e = .returned (.tuple #[vq, vr, .bool true]) ∧ Nrm w' vq (n / 1) 2 ∧ Fresh w.heap.size vq ∧ Below w.heap.size w w') := Lib.hid (fun va vb w h h' => div_f h h' (by omega) HP.out (by omega) (by omega))
    have D2 : Hid (∀ va vb w, Num w va 1 2 → Num w vb 1 2 → Calls Try.prog 105 #[va, vb] w fun e w' => ∃ vq vr, e = .returned (.tuple #[vq, vr, .bool true]) ∧ Nrm w' vq (1 / 1) 2 ∧ Fresh w.heap.size vq ∧ Below w.heap.size w w') := Lib.hid (fun va vb w h h' => div_f h h' (by omega) (by omega) (by omega) (by omega))
    clear e1
    go_enter Try.func92, Try.ntmps92
    go_wp2_with (first
      | (go_at_call 102; ((with_reducible refine (bits_pos_n (HN.out _) (by omega) HP.out).mono ?_); rintro e w1 ⟨kk, rfl, hkk, hb1⟩; have hd1 := (HD.out _).keep hb1; have hn1 := (HN.out _).keep hb1))
      | (go_at_call 102; ((with_reducible refine (bits_pos_n hd1 (by omega) (by omega)).mono ?_); rintro e w2 ⟨kd, rfl, hkd, hb2⟩; have hb2' := bel2' hb1 hb2; have hd2 := hd1.keep hb2; have hn2 := hn1.keep hb2; clear hd1 hn1))
      | (go_at_call 104; ((with_reducible refine (GC.out _ _ _ hn2 hd2).mono ?_); rintro e w3 ⟨v3, rfl, hg3, hb3⟩; have hb3' := bel2' hb2' hb3; have hd3 := hd2.keep hb3; have hn3 := hn2.keep hb3; clear hd2 hn2))
      | (go_at_call 105; ((with_reducible refine (D1.out _ _ _ hn3 hg3.num).mono ?_); rintro e w4 ⟨vq4, vr4, rfl, hq4, hf4, hb4⟩; have hb4' := bel2' hb3' hb4; have hd4 := hd3.keep hb4; have hg4 := hg3.keep hb4; clear hn3 hd3 hg3))
      | (go_at_call 105; ((with_reducible refine (D2.out _ _ _ hd4 hg4.num).mono ?_); rintro e w5 ⟨vq5, vr5, rfl, hq5, hf5, hb5⟩; have hb5' := bel2' hb4' hb5; have hs3 := hb3'.size; have hs4 := hb4'.size; have hq4b := hq4.keep hb5; obtain ⟨p1, l1, k1, rfl⟩ := hq4b.shape; obtain ⟨p2, l2, k2, rfl⟩ := hq5.shape; have c0 := new_cell hb5' 0; have c1 := new_cell hb5' 1; have c2 := new_cell hb5' 2; have f0 := new_free hb5' 0; have f1 := new_free hb5' 1; have f2 := new_free hb5' 2; simp at c0 c1 c2 hs3 hs4)))
    have hf4 := Lib.hid (hf4.mono (B' := w.heap.size) (by omega))
    have hf5 := Lib.hid (hf5.mono (B' := w.heap.size) (by omega))
    refine bodyPost_ret (v := .agg #[.bool false, .slice p1 l1 k1, .slice p2 l2 k2]) (by simp [results, Try.results92, go_sem, c0, c1, c2]) rfl ?_
    obtain ⟨g1, g2⟩ := ret3 (q := ⟨false, n / 1, 1 / 1⟩) hb5' (Nat.le_refl _) (Below.refl _ _) hq4b hq5 _ rfl
    exact ⟨_, _, _, _, _, _, rfl, g1, hf4.out, hf5.out, g2⟩

end Go.Proofs.Ytbnhgmikegdppaa

/- ratio.Of of a number that is not negative; irv.ratios. -/
namespace Go.Proofs.Ytbnhgmikegdppaa
open Go.RowKit Go.Proofs.Kit Go.Proofs.Nums

set_option maxHeartbeats 1000000 in
theorem of_q (n : Nat) (hn : n ≤ 1000000) (w : World) : Calls Try.prog 79 #[.int .i64 n] w (GivesF (wholeQ n) 2 w) := by
  have SZ : Hid (∀ w, Calls Try.prog 93 #[.int .i64 n] w fun e w' => ∃ v', e = .returned v' ∧ Nrm w' v' n 2 ∧ Below w.heap.size w w') := Lib.hid (fun w => by
    have := size_z (z := (n : Int)) (L := 2) (w := w) (by omega) (by omega) (Nat.le_refl _)
    rw [Int.natAbs_natCast] at this; exact this)
  have OF := Lib.hid nrm_one_f
  have MK : Hid (∀ vn vd w, Num w vn n 2 → Num w vd 1 2 → Calls Try.prog 92 #[.bool false, vn, vd] w (GivesF (Q.mk' false n 1) 2 w)) := Lib.hid (fun vn vd w h h' => make_f h h')
  rw [show wholeQ n = Q.mk' false n 1 by unfold wholeQ; rw [Int.toNat_natCast]]
  have hneg : decide ((n : Int) < 0) = false := decide_eq_false (by omega)
  obtain ⟨q, hq⟩ : ∃ q, Q.mk' false n 1 = q := ⟨_, rfl⟩
  rw [hq] at MK ⊢
  clear hq hn
  go_enter Try.func79, Try.ntmps79
  go_wp2_with (first
    | (go_at_call 93; ((with_reducible refine (SZ.out _).mono ?_); rintro e w1 ⟨v1, rfl, hv1, hb1⟩))
    | (go_at_call 94; ((with_reducible refine (OF.out _).mono ?_); rintro e w2 ⟨v2, rfl, hv2, _, hb2⟩; have hb2' := bel2' hb1 hb2; have h12 := hv1.keep hb2))
    | (go_at_call 92; ((with_reducible refine (MK.out _ _ _ h12.num hv2.num).mono ?_); rintro e w3 ⟨a1, b1, e1, a2, b2, e2, rfl, hv3, hf1, hf2, hb3⟩; obtain ⟨vn', vd', e9, hvn, hvd⟩ := hv3; simp at e9; obtain ⟨rfl, rfl⟩ := e9; have hs2 := hb2'.size; have hb3' := bel2' hb2' hb3; have c0 := new_cell hb3' 0; have c1 := new_cell hb3' 1; have c2 := new_cell hb3' 2; have f0 := new_free hb3' 0; have f1 := new_free hb3' 1; have f2 := new_free hb3' 2; simp at c0 c1 c2 hs2)))
  have hf1 := Lib.hid (hf1.mono (B' := w.heap.size) (by omega))
  have hf2 := Lib.hid (hf2.mono (B' := w.heap.size) (by omega))
  refine bodyPost_ret (v := .agg #[.bool q.neg, .slice a1 b1 e1, .slice a2 b2 e2]) (by simp [results, Try.results79, go_sem, c0, c1, c2]) rfl ?_
  obtain ⟨g1, g2⟩ := ret3 (q := q) hb3' (Nat.le_refl _) (Below.refl _ _) hvn hvd _ rfl
  exact ⟨_, _, _, _, _, _, rfl, g1, hf1.out, hf2.out, g2⟩
theorem of_m (n : Nat) (hn : n ≤ 1000000) (w : World) :
    Calls Try.prog 79 #[.int .i64 n] w fun e w' => ∃ p l k p' l' k', e = .returned (.agg #[.bool false, .slice p l k, .slice p' l' k']) ∧ Made w.heap.size (fun w => ratR w [.bool false, .slice p l k, .slice p' l' k'] (wholeQ n)) w' ∧ Below w.heap.size w w' := by
  refine (of_q n hn w).mono ?_
  rintro e w' ⟨p, l, k, p', l', k', rfl, h1, f1, f2, hb⟩
  have hneg : (wholeQ n).neg = false := mk'_pos
  rw [hneg] at h1
  exact ⟨p, l, k, p', l', k', by rw [hneg], ratR_made h1 (by unfold wholeQ; rw [Int.toNat_natCast]; exact ShQ.frac (by omega) (by omega)) f1 f2, hb⟩

set_option maxRecDepth 100000 in
set_option maxHeartbeats 4000000 in
theorem ratios_c {v : Value} {l : List Int} {w : World} (hv : IntsAt w v l) (hr : ∀ x ∈ l, 0 ≤ x ∧ x ≤ 1000000) (hl : l.length ≤ 1000) :
    Calls Try.prog 78 #[v] w fun e w' => ∃ v', e = .returned v' ∧ (∃ css, RLst w.heap.size v' w' (wholesS l) css) ∧ Below w.heap.size w w' := by
  have HV := Lib.hid hv
  have HR := Lib.hid hr
  obtain ⟨p, c, rfl⟩ := hv.shape
  obtain ⟨len, hlen⟩ : ∃ n, l.length = n := ⟨_, rfl⟩
  have HN := Lib.hid hlen
  rw [hlen] at HV hl ⊢
  clear hv hr hlen
  go_enter Try.func78, Try.ntmps78
  go_wp2_with fail
  go_loopw [3, 8] (fun ov iv wr => ∃ k : Nat, ∃ qs : List Q, ∃ css, k ≤ len ∧ qs.length = k ∧ iv = .int .i64 k ∧ Below w.heap.size w wr ∧ Hid (RLst w.heap.size ov wr qs css) ∧ Hid (qs = wholesS (l.take k))) (fun _ iv _ => len - (intOf iv).toNat)
  case atStart => exact ⟨0, [], [], by omega, rfl, rfl, Below.refl _ _, Lib.hid (Lst.nil _), Lib.hid rfl⟩
  case round =>
    obtain ⟨k, qs, css, hk, hqs, rfl, hbel, hL, hQ⟩ := hrel
    by_cases hlt : k < len
    · have hltz : (k : Int) < (len : Int) := by omega
      obtain ⟨bb, off, hp0, hc1, hc2, hcell⟩ := (HV.out.keep hbel).cellAt k (by rw [HN.out]; exact hlt)
      subst hp0
      have hmem := HR.out (l.getD k 0) (mem_getD (by rw [HN.out]; exact hlt) rfl)
      obtain ⟨y, hy⟩ : ∃ y, l.getD k 0 = y := ⟨_, rfl⟩
      rw [hy] at hcell hmem
      obtain ⟨cn, hcn⟩ : ∃ j : Nat, y = j := ⟨y.toNat, by omega⟩
      subst hcn
      have HS := Lib.hid (wholes_snoc (by rw [HN.out]; exact hlt) hy)
      have HW : Hid (∀ w, Calls Try.prog 79 #[.int .i64 cn] w fun e w' => ∃ p l k p' l' k', e = .returned (.agg #[.bool false, .slice p l k, .slice p' l' k']) ∧ Made w.heap.size (fun w => ratR w [.bool false, .slice p l k, .slice p' l' k'] (wholeQ cn)) w' ∧ Below w.heap.size w w') := Lib.hid (fun w => of_m cn (by omega) w)
      clear hy hmem
      go_wp2_with (first | (go_at_call 79; ((with_reducible refine (HW.out _).mono ?_); rintro e w1 ⟨p1, l1, k1, p2, l2, k2, rfl, hm1, hb1⟩; have hB1 := bel2' hbel hb1; have HM := Lib.hid (Lst.fresh_elt hL.out hm1 hbel.size); clear hm1)) | (at_builtin; go_must (refine append_lst erQ rfl rfl (hL.out.keep hb1) rfl rfl rfl (by simp [Value.oneCell']) (by omega) (by omega) hB1.size HM.out ?_); intro v' w4 hL4 hb4 hg4 hv4; have HL4 := Lib.hid hL4; clear hL4))
      go_roundw
      case rel => exact ⟨k + 1, _, _, by omega, by simp [hqs], by go_num, hB1.trans hb4, HL4, Lib.hid (by rw [hQ.out, HS.out])⟩
      case measure => simp [intOf] <;> omega
    · have hltz : ¬ (k : Int) < (len : Int) := by omega
      have HX : Hid (qs = wholesS l) := Lib.hid (by rw [hQ.out, List.take_of_length_le (by rw [HN.out]; omega)])
      go_wp2_with fail
      go_ret
      exact ⟨_, rfl, ⟨_, by rw [← HX.out]; exact hL.out⟩, hbel⟩

end Go.Proofs.Ytbnhgmikegdppaa
