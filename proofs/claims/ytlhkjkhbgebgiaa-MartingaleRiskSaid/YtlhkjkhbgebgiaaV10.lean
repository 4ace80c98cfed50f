/- The meter over all orders: the mean of its values, and how often it reaches a limit. Plain: no program in sight. -/
import Derived.Test.YtlhkjkhbgebgiaaV0
namespace Go.Proofs.Nums

def sumI {α : Type} (f : α → Int) : List α → Int
  | [] => 0
  | a :: l => f a + sumI f l
section
variable {α β : Type} {f g : α → Int}
theorem sumI_app (l m : List α) : sumI f (l ++ m) = sumI f l + sumI f m := by
  induction l with
  | nil => simp [sumI]
  | cons a l ih => simp only [List.cons_append, sumI, ih]; omega
theorem sumI_perm {l m : List α} (h : l.Perm m) : sumI f l = sumI f m := by
  induction h with
  | nil => rfl
  | cons x _ ih => simp only [sumI, ih]
  | swap x y l => simp only [sumI]; omega
  | trans _ _ h1 h2 => exact h1.trans h2
theorem sumI_flatMap (F : β → List α) (l : List β) : sumI f (l.flatMap F) = sumI (fun b => sumI f (F b)) l := by
  induction l with
  | nil => rfl
  | cons a l ih => rw [List.flatMap_cons, sumI_app, ih]; rfl
theorem sumI_map (F : β → α) (l : List β) : sumI f (l.map F) = sumI (fun b => f (F b)) l := by
  induction l with
  | nil => rfl
  | cons a l ih => rw [List.map_cons]; simp only [sumI, ih]
theorem sumI_le {l : List α} (h : ∀ x ∈ l, f x ≤ g x) : sumI f l ≤ sumI g l := by
  induction l with
  | nil => exact Int.le_refl _
  | cons a l ih =>
    have h1 := h a (by simp)
    have h2 := ih fun x hx => h x (List.mem_cons_of_mem _ hx)
    simp only [sumI]; omega
theorem sumI_mul (c : Int) (l : List α) : sumI (fun x => c * f x) l = c * sumI f l := by
  induction l with
  | nil => simp [sumI]
  | cons a l ih => simp only [sumI, ih, Int.mul_add]
theorem sumI_add (l : List α) : sumI (fun x => f x + g x) l = sumI f l + sumI g l := by
  induction l with
  | nil => rfl
  | cons a l ih => simp only [sumI, ih]; omega
theorem sumI_const (c : Int) (l : List α) : sumI (fun _ => c) l = l.length * c := by
  induction l with
  | nil => simp [sumI]
  | cons a l ih =>
    simp only [sumI, ih, List.length_cons]
    rw [show ((l.length + 1 : Nat) : Int) = (l.length : Int) + 1 by omega, Int.add_mul]; omega
theorem sumI_nonneg {l : List α} (h : ∀ x ∈ l, 0 ≤ f x) : 0 ≤ sumI f l := by
  induction l with
  | nil => exact Int.le_refl _
  | cons a l ih =>
    have h1 := h a (by simp)
    have h2 := ih fun x hx => h x (List.mem_cons_of_mem _ hx)
    simp only [sumI]; omega
theorem sumI_snoc (l : List α) (x : α) : sumI f (l ++ [x]) = sumI f l + f x := by
  rw [sumI_app]; simp [sumI]
end

def upto (n : Nat) : List Int := (List.range n).map fun i : Nat => (i : Int)
def factI : Nat → Int
  | 0 => 1
  | n + 1 => ((n : Int) + 1) * factI n
theorem factI_pos : ∀ n, 0 < factI n
  | 0 => by decide
  | n + 1 => Int.mul_pos (by omega) (factI_pos n)
/-- All orders, by the first. -/
def sel : Nat → List Int → List (List Int)
  | 0, _ => [[]]
  | m + 1, R => R.flatMap fun x => (sel m (R.erase x)).map (x :: ·)
/-- All orders, by the place of the last. -/
def ordS : Nat → List (List Int)
  | 0 => [[]]
  | i + 1 => (ordS i).flatMap fun p => (List.range (p.length + 1)).map fun k => p.take k ++ [(i : Int)] ++ p.drop k

theorem sel_len {m : Nat} : ∀ {R : List Int}, R.length = m → ((sel m R).length : Int) = factI m := by
  induction m with
  | zero => intro R _; rfl
  | succ m ih =>
    intro R h
    have key : ∀ L : List Int, (∀ x ∈ L, x ∈ R) → ((L.flatMap fun x => (sel m (R.erase x)).map (x :: ·)).length : Int) = L.length * factI m := by
      intro L hL
      induction L with
      | nil => simp
      | cons a L ih2 =>
        have := ih (R := R.erase a) (by rw [List.length_erase_of_mem (hL a (by simp)), h]; rfl)
        have h2 := ih2 fun x hx => hL x (List.mem_cons_of_mem _ hx)
        rw [List.flatMap_cons, List.length_append, List.length_map, List.length_cons]
        rw [show ((L.length + 1 : Nat) : Int) = (L.length : Int) + 1 by omega, Int.add_mul]
        omega
    have := key R fun x hx => hx
    show ((R.flatMap fun x => (sel m (R.erase x)).map (x :: ·)).length : Int) = _
    rw [this, h]
    show _ = ((m : Int) + 1) * factI m
    rw [show ((m + 1 : Nat) : Int) = (m : Int) + 1 by omega]
theorem mem_sel {m : Nat} : ∀ {R q : List Int}, R.length = m → (q ∈ sel m R ↔ q.Perm R) := by
  induction m with
  | zero =>
    intro R q h
    obtain rfl : R = [] := List.eq_nil_of_length_eq_zero h
    show q ∈ [[]] ↔ _
    rw [List.mem_singleton, List.perm_nil]
  | succ m ih =>
    intro R q h
    show q ∈ R.flatMap (fun x => (sel m (R.erase x)).map (x :: ·)) ↔ _
    rw [List.mem_flatMap]
    constructor
    · rintro ⟨x, hx, hq⟩
      obtain ⟨q', hq', rfl⟩ := List.mem_map.1 hq
      have := (ih (R := R.erase x) (by rw [List.length_erase_of_mem hx, h]; rfl)).1 hq'
      exact (this.cons x).trans (List.perm_cons_erase hx).symm
    · intro hp
      cases q with
      | nil => have := hp.length_eq; rw [h] at this; simp at this
      | cons x q =>
        have hx : x ∈ R := hp.mem_iff.1 (by simp)
        refine ⟨x, hx, List.mem_map.2 ⟨q, (ih (by rw [List.length_erase_of_mem hx, h]; rfl)).2 ?_, rfl⟩⟩
        exact (hp.trans (List.perm_cons_erase hx)).cons_inv
theorem nodup_map_inj {α β : Type} {f : α → β} (hf : ∀ a b, f a = f b → a = b) {l : List α} (h : l.Nodup) : (l.map f).Nodup :=
  List.Pairwise.map (R := fun a b => a ≠ b) _ (fun a b h e => h (hf a b e)) h
theorem sel_nodup {m : Nat} : ∀ {R : List Int}, R.Nodup → R.length = m → (sel m R).Nodup := by
  induction m with
  | zero => intro R _ _; show [[]].Nodup; simp
  | succ m ih =>
    intro R hn h
    show (R.flatMap (fun x => (sel m (R.erase x)).map (x :: ·))).Nodup
    refine List.pairwise_flatMap.2 ⟨fun x hx => nodup_map_inj (fun a b e => (List.cons.inj e).2) (ih (hn.erase x) (by rw [List.length_erase_of_mem hx, h]; rfl)), hn.imp ?_⟩
    intro a b hab x hx y hy e
    obtain ⟨x', _, rfl⟩ := List.mem_map.1 hx
    obtain ⟨y', _, rfl⟩ := List.mem_map.1 hy
    exact hab (List.cons.inj e).1
theorem upto_succ (n : Nat) : upto (n + 1) = upto n ++ [(n : Int)] := by
  unfold upto
  rw [List.range_succ, List.map_append]; rfl
theorem upto_len (n : Nat) : (upto n).length = n := by unfold upto; simp
theorem upto_nodup (n : Nat) : (upto n).Nodup := nodup_map_inj (f := fun i : Nat => (i : Int)) (fun _ _ e => Int.ofNat_inj.1 e) List.nodup_range
theorem mem_upto {n : Nat} {x : Int} : x ∈ upto n ↔ 0 ≤ x ∧ x < n := by
  unfold upto
  rw [List.mem_map]
  constructor
  · rintro ⟨i, hi, rfl⟩
    have := List.mem_range.1 hi
    omega
  · rintro ⟨h0, h1⟩
    exact ⟨x.toNat, List.mem_range.2 (by omega), by omega⟩
theorem ins_perm (p : List Int) (k : Nat) (i : Int) : (p.take k ++ [i] ++ p.drop k).Perm (i :: p) := by
  rw [List.append_assoc]
  show (p.take k ++ i :: p.drop k).Perm _
  refine List.perm_middle.trans ?_
  rw [List.take_append_drop]
theorem mem_ord {n : Nat} : ∀ {q : List Int}, q ∈ ordS n ↔ q.Perm (upto n) := by
  induction n with
  | zero =>
    intro q
    show q ∈ [[]] ↔ _
    rw [List.mem_singleton]
    exact List.perm_nil.symm
  | succ n ih =>
    intro q
    show q ∈ (ordS n).flatMap (fun p => (List.range (p.length + 1)).map fun k => p.take k ++ [(n : Int)] ++ p.drop k) ↔ _
    rw [List.mem_flatMap, upto_succ]
    constructor
    · rintro ⟨p, hp, hq⟩
      obtain ⟨k, _, rfl⟩ := List.mem_map.1 hq
      refine (ins_perm p k n).trans (((ih.1 hp).cons _).trans ?_)
      exact (List.perm_append_singleton _ _).symm
    · intro hp
      have hm : (n : Int) ∈ q := hp.mem_iff.2 (by simp)
      obtain ⟨a, b, rfl⟩ := List.append_of_mem hm
      have h2 : (a ++ b).Perm (upto n) := by
        have h3 := (List.perm_middle (a := (n : Int)) (l₁ := a) (l₂ := b)).symm.trans (hp.trans (List.perm_append_singleton _ _))
        exact h3.cons_inv
      refine ⟨a ++ b, ih.2 h2, List.mem_map.2 ⟨a.length, List.mem_range.2 (by rw [List.length_append]; omega), ?_⟩⟩
      simp
theorem ord_len {n : Nat} {q : List Int} (h : q ∈ ordS n) : q.length = n := by rw [(mem_ord.1 h).length_eq, upto_len]
theorem cut_inj {i : Int} {a b a' b' : List Int} (ha : i ∉ a) (ha' : i ∉ a') (h : a ++ [i] ++ b = a' ++ [i] ++ b') : a = a' ∧ b = b' := by
  induction a generalizing a' with
  | nil =>
    cases a' with
    | nil => exact ⟨rfl, by simpa using h⟩
    | cons y a' =>
      simp at h
      exact absurd h.1 (fun e => ha' (by simp [e]))
  | cons x a ih =>
    cases a' with
    | nil =>
      simp at h
      exact absurd h.1 (fun e => ha (by simp [e]))
    | cons y a' =>
      simp only [List.cons_append, List.cons.injEq] at h
      obtain ⟨e1, e2⟩ := ih (fun g => ha (List.mem_cons_of_mem _ g)) (fun g => ha' (List.mem_cons_of_mem _ g)) h.2
      exact ⟨by rw [h.1, e1], e2⟩
theorem ord_nodup (n : Nat) : (ordS n).Nodup := by
  induction n with
  | zero => show [[]].Nodup; simp
  | succ n ih =>
    show ((ordS n).flatMap (fun p => (List.range (p.length + 1)).map fun k => p.take k ++ [(n : Int)] ++ p.drop k)).Nodup
    have hno : ∀ p ∈ ordS n, ∀ k, (n : Int) ∉ p.take k := fun p hp k hm => by
      have := (mem_upto.1 ((mem_ord.1 hp).mem_iff.1 (List.mem_of_mem_take hm))).2
      omega
    refine List.pairwise_flatMap.2 ⟨fun p hp => ?_, ih.imp_of_mem ?_⟩
    · refine List.Pairwise.map (R := fun a b => a ≠ b ∧ a ≤ p.length ∧ b ≤ p.length) _ ?_ ?_
      · intro a b ⟨h, ha, hb⟩ e
        have := congrArg List.length (cut_inj (hno p hp a) (hno p hp b) e).1
        rw [List.length_take, List.length_take] at this
        omega
      · refine (List.nodup_range (n := p.length + 1)).imp_of_mem ?_
        intro a b ha hb h
        have := List.mem_range.1 ha
        have := List.mem_range.1 hb
        exact ⟨h, by omega, by omega⟩
    · intro p p' hp hp' hne x hx y hy e
      obtain ⟨k, _, rfl⟩ := List.mem_map.1 hx
      obtain ⟨k', _, rfl⟩ := List.mem_map.1 hy
      obtain ⟨e1, e2⟩ := cut_inj (hno p hp k) (hno p' hp' k') e
      exact hne (by rw [← List.take_append_drop k p, ← List.take_append_drop k' p', e1, e2])
theorem ord_perm (n : Nat) : (ordS n).Perm (sel n (upto n)) :=
  (List.perm_ext_iff_of_nodup (ord_nodup n) (sel_nodup (upto_nodup n) (upto_len n))).2 fun q => by rw [mem_ord, mem_sel (upto_len n)]
theorem ord_num (n : Nat) : ((ordS n).length : Int) = factI n := by rw [(ord_perm n).length_eq]; exact sel_len (upto_len n)

/-- What the null hypothesis keeps: the room bears the scores of those that are left. -/
structure Nul (s : Mt) (l : List Int) (R : List Int) : Prop where
  left : s.n - s.seen = R.length
  room : sumI (fun x => s.u - l.getD x.toNat 0) R ≤ s.room
  sc : ∀ x ∈ R, 0 ≤ s.u - l.getD x.toNat 0
  val : 0 ≤ s.val
  pr : s.pr = false
theorem Nul.room0 {s : Mt} {l R : List Int} (h : Nul s l R) : 0 ≤ s.room := Int.le_trans (sumI_nonneg h.sc) h.room
theorem Nul.newVal {s : Mt} {l R : List Int} (h : Nul s l R) (h0 : s.room ≠ 0) (o : Int) : s.newVal o = min 17592186044416 (s.val * (s.room + 9 * (s.u - o) * (s.n - s.seen)) / (10 * s.room)) := by
  unfold Mt.newVal
  rw [if_neg (by rw [h.pr]; simp [h0])]
theorem Nul.next {s : Mt} {l R : List Int} (h : Nul s l R) {x : Int} (hx : x ∈ R) : Nul (s.next (l.getD x.toNat 0)) l (R.erase x) := by
  have hs : sumI (fun x => s.u - l.getD x.toNat 0) R = (s.u - l.getD x.toNat 0) + sumI (fun x => s.u - l.getD x.toNat 0) (R.erase x) := sumI_perm (List.perm_cons_erase hx)
  have hr := h.room
  have hsc := h.sc x hx
  have hn : 0 ≤ sumI (fun x => s.u - l.getD x.toNat 0) (R.erase x) := sumI_nonneg fun y hy => h.sc y (List.mem_of_mem_erase hy)
  have hl := h.left
  have hpos : 0 < R.length := List.length_pos_of_mem hx
  refine ⟨?_, ?_, fun y hy => h.sc y (List.mem_of_mem_erase hy), ?_, ?_⟩
  · show s.n - (s.seen + 1) = _
    rw [List.length_erase_of_mem hx]; omega
  · show sumI (fun x => s.u - l.getD x.toNat 0) (R.erase x) ≤ s.room - (s.u - l.getD x.toNat 0)
    omega
  · show 0 ≤ s.newVal _
    by_cases h0 : s.room = 0
    · unfold Mt.newVal
      rw [if_pos (.inr h0)]; exact h.val
    · rw [h.newVal h0]
      have h1 : 0 ≤ 9 * (s.u - l.getD x.toNat 0) * (s.n - s.seen) := Int.mul_nonneg (by omega) (by omega)
      have h2 := h.room0
      have h3 : 0 ≤ s.val * (s.room + 9 * (s.u - l.getD x.toNat 0) * (s.n - s.seen)) := Int.mul_nonneg h.val (by omega)
      have h4 : 0 ≤ s.val * (s.room + 9 * (s.u - l.getD x.toNat 0) * (s.n - s.seen)) / (10 * s.room) := Int.ediv_nonneg h3 (by omega)
      omega
  · show decide (s.room - (s.u - l.getD x.toNat 0) < 0) = false
    rw [decide_eq_false_iff_not]; omega
/-- One step: the mean does not grow. -/
theorem Nul.mean {s : Mt} {l R : List Int} (h : Nul s l R) : sumI (fun x => (s.next (l.getD x.toNat 0)).val) R ≤ R.length * s.val := by
  by_cases h0 : s.room = 0
  · have e : ∀ o, (s.next o).val = s.val := fun o => by
      show s.newVal o = _
      unfold Mt.newVal
      rw [if_pos (.inr h0)]
    simp only [e]
    rw [sumI_const]
    exact Int.le_refl _
  · have hr0 := h.room0
    have hD : 0 < 10 * s.room := by omega
    obtain ⟨f, hf⟩ : ∃ f : Int → Int, (fun x : Int => s.u - l.getD x.toNat 0) = f := ⟨_, rfl⟩
    have h1 : sumI (fun x => (10 * s.room) * (s.next (l.getD x.toNat 0)).val) R ≤ sumI (fun x => s.val * (s.room + 9 * f x * (s.n - s.seen))) R := sumI_le fun x hx => by
      show (10 * s.room) * s.newVal _ ≤ _
      rw [h.newVal h0, ← hf]
      have g := Int.mul_ediv_self_le (x := s.val * (s.room + 9 * (s.u - l.getD x.toNat 0) * (s.n - s.seen))) (k := 10 * s.room) (by omega)
      refine Int.le_trans (Int.mul_le_mul_of_nonneg_left (Int.min_le_right _ _) (by omega)) g
    have h2 : ∀ L : List Int, sumI (fun x => s.val * (s.room + 9 * f x * (s.n - s.seen))) L = s.val * (L.length * s.room + 9 * (s.n - s.seen) * sumI f L) := by
      intro L
      induction L with
      | nil => simp [sumI]
      | cons a L ih =>
        simp only [sumI, ih, List.length_cons]
        rw [show ((L.length + 1 : Nat) : Int) = (L.length : Int) + 1 by omega]
        grind
    rw [sumI_mul, h2 R, h.left] at h1
    have hroom := h.room
    rw [hf] at hroom
    have hval := h.val
    obtain ⟨n, hn⟩ : ∃ n : Int, (R.length : Int) = n := ⟨_, rfl⟩
    rw [hn] at h1 ⊢
    have hn0 : 0 ≤ n := by omega
    have h3 : 9 * n * sumI f R ≤ 9 * n * s.room := Int.mul_le_mul_of_nonneg_left hroom (by omega)
    have h4 : s.val * (n * s.room + 9 * n * sumI f R) ≤ s.val * (n * s.room + 9 * n * s.room) := Int.mul_le_mul_of_nonneg_left (by omega) hval
    have h5 : s.val * (n * s.room + 9 * n * s.room) = (10 * s.room) * (n * s.val) := by grind
    rw [h5] at h4
    exact Int.le_of_mul_le_mul_left (Int.le_trans h1 h4) hD

/-- The meter after some items. -/
def runS (l : List Int) (s : Mt) (q : List Int) : Mt := q.foldl (fun s x => s.next (l.getD x.toNat 0)) s
theorem mean_sel {l : List Int} {m : Nat} : ∀ {R : List Int} {s : Mt} (k : Nat), R.length = m → Nul s l R → sumI (fun q => (runS l s (q.take k)).val) (sel m R) ≤ factI m * s.val := by
  induction m with
  | zero =>
    intro R s k _ _
    show sumI _ [[]] ≤ _
    simp [sumI, runS, factI]
  | succ m ih =>
    intro R s k hR h
    cases k with
    | zero =>
      have e : ∀ q : List Int, (runS l s (q.take 0)).val = s.val := fun q => by rw [List.take_zero]; rfl
      simp only [e]
      rw [sumI_const, sel_len hR]
      exact Int.le_refl _
    | succ k =>
      show sumI _ (R.flatMap (fun x => (sel m (R.erase x)).map (x :: ·))) ≤ _
      rw [sumI_flatMap]
      have h1 : sumI (fun x => sumI (fun q => (runS l s (q.take (k + 1))).val) ((sel m (R.erase x)).map (x :: ·))) R ≤ sumI (fun x => factI m * (s.next (l.getD x.toNat 0)).val) R := sumI_le fun x hx => by
        rw [sumI_map]
        exact ih k (by rw [List.length_erase_of_mem hx, hR]; rfl) (h.next hx)
      rw [sumI_mul] at h1
      have h2 := Int.mul_le_mul_of_nonneg_left h.mean (Int.le_of_lt (factI_pos m))
      rw [hR] at h2
      refine Int.le_trans h1 (Int.le_trans h2 ?_)
      show _ ≤ ((m : Int) + 1) * factI m * s.val
      rw [show ((m + 1 : Nat) : Int) = (m : Int) + 1 by omega]
      exact Int.le_of_eq (by grind)
/-- How often a limit is reached. -/
theorem risk_sel {l : List Int} {num T : Int} (hn : 0 ≤ num) (hT : 0 ≤ T) {m : Nat} : ∀ {R : List Int} {s : Mt}, R.length = m → Nul s l R → s.best * num < T → sumI (fun q => if T ≤ (runS l s q).best * num then T else 0) (sel m R) ≤ factI m * (s.val * num) := by
  induction m with
  | zero =>
    intro R s _ h hb
    show sumI _ [[]] ≤ _
    have := Int.mul_nonneg h.val hn
    have e : runS l s [] = s := rfl
    simp only [sumI, factI]
    rw [e, if_neg (by omega)]
    omega
  | succ m ih =>
    intro R s hR h hb
    show sumI _ (R.flatMap (fun x => (sel m (R.erase x)).map (x :: ·))) ≤ _
    rw [sumI_flatMap]
    have h1 : sumI (fun x => sumI (fun q => if T ≤ (runS l s q).best * num then T else 0) ((sel m (R.erase x)).map (x :: ·))) R ≤ sumI (fun x => (factI m * num) * (s.next (l.getD x.toNat 0)).val) R := sumI_le fun x hx => by
      rw [sumI_map]
      have hl : (R.erase x).length = m := by rw [List.length_erase_of_mem hx, hR]; rfl
      have e0 : (factI m * num) * (s.next (l.getD x.toNat 0)).val = factI m * ((s.next (l.getD x.toNat 0)).val * num) := by grind
      rw [e0]
      by_cases hc : (s.next (l.getD x.toNat 0)).best * num < T
      · exact ih hl (h.next hx) hc
      · have h2 : sumI (fun q => if T ≤ (runS l s (x :: q)).best * num then T else 0) (sel m (R.erase x)) ≤ sumI (fun _ => T) (sel m (R.erase x)) := sumI_le fun q _ => by split <;> omega
        rw [sumI_const, sel_len hl] at h2
        refine Int.le_trans h2 (Int.mul_le_mul_of_nonneg_left ?_ (Int.le_of_lt (factI_pos m)))
        have hbe : (s.next (l.getD x.toNat 0)).best = s.newBest (l.getD x.toNat 0) := rfl
        have hve : (s.next (l.getD x.toNat 0)).val = s.newVal (l.getD x.toNat 0) := rfl
        rw [hbe] at hc
        rw [hve]
        unfold Mt.newBest at hc
        split at hc
        · omega
        · rcases Int.le_total (s.newVal (l.getD x.toNat 0)) s.best with g | g
          · rw [Int.max_eq_left g] at hc; omega
          · rw [Int.max_eq_right g] at hc; omega
    rw [sumI_mul] at h1
    have h2 := Int.mul_le_mul_of_nonneg_left h.mean (Int.mul_nonneg (Int.le_of_lt (factI_pos m)) hn)
    rw [hR] at h2
    refine Int.le_trans h1 (Int.le_trans h2 ?_)
    show _ ≤ ((m : Int) + 1) * factI m * (s.val * num)
    rw [show ((m + 1 : Nat) : Int) = (m : Int) + 1 by omega]
    exact Int.le_of_eq (by grind)

/-- Overstatements for which the null hypothesis is true. -/
structure NullL (l : List Int) (mg u : Int) : Prop where
  u1 : 2 ≤ u
  u2 : u ≤ 6
  n1 : 1 ≤ l.length
  n2 : l.length ≤ 6
  rng : ∀ x ∈ l, -u ≤ x ∧ x ≤ u
  m1 : 1 ≤ mg
  m2 : mg ≤ sumI id l
theorem sum_getD (l : List Int) (u : Int) : sumI (fun x : Int => u - l.getD x.toNat 0) (upto l.length) = l.length * u - sumI id l := by
  unfold upto
  rw [sumI_map]
  have key : ∀ (k : Nat), k ≤ l.length → sumI (fun b : Nat => u - l.getD (b : Int).toNat 0) (List.range k) = k * u - sumI id (l.take k) := by
    intro k
    induction k with
    | zero => intro _; simp [sumI]
    | succ k ih =>
      intro hk
      have e : l.take (k + 1) = l.take k ++ [l.getD k 0] := by
        rw [List.take_succ_eq_append_getElem (by omega), List.getD_eq_getElem?_getD, List.getElem?_eq_getElem (by omega)]; rfl
      rw [List.range_succ, sumI_snoc, ih (by omega), e, sumI_snoc, Int.toNat_natCast, show ((k + 1 : Nat) : Int) = (k : Int) + 1 by omega, Int.add_mul]
      simp only [id]
      omega
  have := key l.length (Nat.le_refl _)
  rw [List.take_length] at this
  exact this
theorem NullL.sum_le {l : List Int} {mg u : Int} (h : NullL l mg u) : mg ≤ l.length * u := by
  have h1 : sumI id l ≤ sumI (fun _ => u) l := sumI_le fun x hx => (h.rng x hx).2
  rw [sumI_const] at h1
  have := h.m2
  omega
theorem NullL.start {l : List Int} {mg u : Int} (h : NullL l mg u) : Nul (Mt.new l.length mg u) l (upto l.length) := by
  refine ⟨?_, ?_, fun x hx => ?_, by show (0 : Int) ≤ 4294967296; omega, rfl⟩
  · show (l.length : Int) - 0 = _
    rw [upto_len]; omega
  · show sumI (fun x : Int => u - l.getD x.toNat 0) _ ≤ l.length * u - mg
    rw [sum_getD]
    have := h.m2
    omega
  · show 0 ≤ u - l.getD x.toNat 0
    have hx := mem_upto.1 hx
    have hlt : x.toNat < l.length := by omega
    rw [List.getD_eq_getElem?_getD, List.getElem?_eq_getElem hlt]
    have := (h.rng _ (List.getElem_mem hlt)).2
    simp only [Option.getD_some]
    omega
theorem NullL.mean {l : List Int} {mg u : Int} (h : NullL l mg u) (k : Nat) : sumI (fun q => (runS l (Mt.new l.length mg u) (q.take k)).val) (ordS l.length) ≤ (ordS l.length).length * 4294967296 := by
  rw [ord_num, sumI_perm (ord_perm _)]
  exact mean_sel k (upto_len _) h.start
/-- How many orders come to the limit. -/
def hitS (l : List Int) (s : Mt) (num den : Int) (q : List Int) : Int := if 4294967296 * den ≤ (runS l s q).best * num then 1 else 0
theorem NullL.risk {l : List Int} {mg u : Int} (h : NullL l mg u) {num den : Int} (h0 : 0 < num) (h1 : num ≤ den) : sumI (hitS l (Mt.new l.length mg u) num den) (ordS l.length) * den ≤ (ordS l.length).length * num := by
  by_cases he : num = den
  · subst he
    have g : sumI (hitS l (Mt.new l.length mg u) num num) (ordS l.length) ≤ sumI (fun _ => 1) (ordS l.length) := sumI_le fun q _ => by unfold hitS; split <;> omega
    rw [sumI_const, Int.mul_one] at g
    exact Int.mul_le_mul_of_nonneg_right g (by omega)
  · have g := risk_sel (l := l) (num := num) (T := 4294967296 * den) (by omega) (by omega) (upto_len _) h.start (by show (4294967296 : Int) * num < _; omega)
    rw [← sumI_perm (ord_perm _)] at g
    have e : ∀ q, (if 4294967296 * den ≤ (runS l (Mt.new l.length mg u) q).best * num then 4294967296 * den else 0) = (4294967296 * den) * hitS l (Mt.new l.length mg u) num den q := fun q => by unfold hitS; split <;> omega
    simp only [e] at g
    rw [sumI_mul] at g
    rw [ord_num]
    have g2 : factI l.length * ((Mt.new l.length mg u).val * num) = 4294967296 * (factI l.length * num) := by
      show factI l.length * (4294967296 * num) = _
      grind
    rw [g2] at g
    have g3 : (4294967296 * den) * sumI (hitS l (Mt.new l.length mg u) num den) (ordS l.length) = 4294967296 * (sumI (hitS l (Mt.new l.length mg u) num den) (ordS l.length) * den) := by grind
    rw [g3] at g
    omega
/-- The states in between. -/
theorem run_snoc (l : List Int) (s : Mt) (q : List Int) {k : Nat} (hk : k < q.length) : runS l s (q.take (k + 1)) = (runS l s (q.take k)).next (l.getD (q.getD k 0).toNat 0) := by
  unfold runS
  rw [List.take_succ_eq_append_getElem hk, List.foldl_append, List.getD_eq_getElem?_getD (l := q), List.getElem?_eq_getElem hk]
  rfl
theorem run_nul {l : List Int} {s : Mt} {m : Nat} : ∀ {q R : List Int}, R.length = m → q.Perm R → Nul s l R → ∀ k, k ≤ q.length → (runS l s (q.take k)).pr = false := by
  induction m generalizing s with
  | zero =>
    intro q R hR hp h k hk
    obtain rfl : R = [] := List.eq_nil_of_length_eq_zero hR
    obtain rfl := List.perm_nil.1 hp
    simp [runS, h.pr]
  | succ m ih =>
    intro q R hR hp h k hk
    cases k with
    | zero => rw [List.take_zero]; exact h.pr
    | succ k =>
      cases q with
      | nil => simp at hk
      | cons x q =>
        have hx : x ∈ R := hp.mem_iff.1 (by simp)
        have := ih (s := s.next (l.getD x.toNat 0)) (q := q) (R := R.erase x) (by rw [List.length_erase_of_mem hx, hR]; rfl) ((hp.trans (List.perm_cons_erase hx)).cons_inv) (h.next hx) k (by simp at hk; omega)
        exact this
theorem NullL.unproven {l : List Int} {mg u : Int} (h : NullL l mg u) {q : List Int} (hq : q ∈ ordS l.length) {k : Nat} (hk : k ≤ l.length) : (runS l (Mt.new l.length mg u) (q.take k)).pr = false :=
  run_nul (upto_len _) (mem_ord.1 hq) h.start k (by rw [ord_len hq]; exact hk)

end Go.Proofs.Nums
