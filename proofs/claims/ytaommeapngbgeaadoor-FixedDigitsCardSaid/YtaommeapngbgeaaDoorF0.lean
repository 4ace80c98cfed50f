/- Fixed-point numbers, plain: no program in sight. -/
import Derived.Test.YtaommeapngbgeaaDoorRP
import Derived.Test.YtaommeapngbgeaaDoorGH
namespace Go.Proofs.Nums
open Go.Proofs.YtaommeapngbgeaaDoor (ib_none ib_app dec_ne numB_dec dropB dropB_yes dropB_no)

/-- The rounded quotient. -/
def quo (n m : Nat) (up : Bool) : Nat := n / m + (if up && decide (n % m ≠ 0) then 1 else 0)

/-- The digits behind the point. -/
def fracT (m d : Nat) : List UInt8 := List.replicate (d - (decB m).length) 48 ++ decB m
/-- The text of n with d digits behind the point. -/
def fixT (n d : Nat) : List UInt8 := if d = 0 then decB n else decB (n / 10 ^ d) ++ 46 :: fracT (n % 10 ^ d) d

theorem decB_le_dig {m d : Nat} (h : m < 10 ^ d) (hd : 1 ≤ d) : (decB m).length ≤ d := by
  unfold decB
  by_cases h0 : m = 0
  · rw [if_pos h0]; exact hd
  · rw [if_neg h0, List.length_reverse, List.length_map]
    exact Go.Proofs.YtaommeapngbgeaaDoor.dec_len_le m d h

theorem frac_len {m d : Nat} (h : m < 10 ^ d) (hd : 1 ≤ d) : (fracT m d).length = d := by
  have := decB_le_dig h hd
  unfold fracT
  rw [List.length_append, List.length_replicate]; omega

theorem dval_append (l r : List Nat) : dval (l ++ r) = dval l + 10 ^ l.length * dval r := by
  induction l with
  | nil => simp [dval]
  | cons y l ih => rw [List.cons_append, dval, dval, ih, List.length_cons, Nat.pow_succ, Nat.mul_add, Nat.add_assoc]; congr 2; rw [← Nat.mul_assoc, Nat.mul_comm 10]
theorem dval_zeros (k : Nat) : dval (List.replicate k 0) = 0 := by
  induction k with
  | zero => rfl
  | succ k ih => rw [List.replicate_succ, dval, ih]

theorem frac_dig {m d : Nat} (h : m < 10 ^ d) (hd : 1 ≤ d) : fracT m d = ((decL m ++ List.replicate (d - (decL m).length) 0).map digB).reverse := by
  have e48 : digB 0 = 48 := by decide
  rw [List.map_append, List.reverse_append, List.map_replicate, List.reverse_replicate, e48]
  unfold fracT decB
  by_cases h0 : m = 0
  · subst h0
    rw [if_pos rfl]
    obtain ⟨k, rfl⟩ : ∃ k, d = k + 1 := ⟨d - 1, by omega⟩
    simp [decL_zero, List.replicate_succ']
  · rw [if_neg h0, List.length_reverse, List.length_map]

/-- A number that has digits ahead of the point. -/
theorem dec_split {n d : Nat} (hq : n / 10 ^ d ≠ 0) (hd : 1 ≤ d) : decB n = decB (n / 10 ^ d) ++ fracT (n % 10 ^ d) d := by
  obtain ⟨p, hp⟩ : ∃ p, 10 ^ d = p := ⟨_, rfl⟩
  have hpp : 0 < p := by rw [← hp]; exact Nat.pow_pos (by omega)
  have hm : n % 10 ^ d < 10 ^ d := by rw [hp]; exact Nat.mod_lt _ hpp
  have hdec := Nat.div_add_mod n p
  rw [frac_dig hm hd]
  obtain ⟨m, hme⟩ : ∃ m, n % 10 ^ d = m := ⟨_, rfl⟩
  obtain ⟨q, hqe⟩ : ∃ q, n / 10 ^ d = q := ⟨_, rfl⟩
  rw [hme] at hm
  rw [hqe] at hq
  rw [hme, hqe]
  rw [hp] at hme hqe
  rw [hme, hqe] at hdec
  have hlen : (decL m).length ≤ d := Go.Proofs.YtaommeapngbgeaaDoor.dec_len_le m d hm
  have hP : decL n = decL m ++ List.replicate (d - (decL m).length) 0 ++ decL q := by
    have hv : dval (decL m ++ List.replicate (d - (decL m).length) 0 ++ decL q) = n := by
      rw [dval_append, dval_append, dval_zeros, dval_dec, dval_dec, List.length_append, List.length_replicate, show (decL m).length + (d - (decL m).length) = d by omega, hp]
      omega
    conv => lhs; rw [← hv]
    refine dec_dval _ ?_ ?_
    · intro x hx
      rcases List.mem_append.1 hx with h | h
      · rcases List.mem_append.1 h with h | h
        · exact dec_dig m x h
        · have := (List.mem_replicate.1 h).2; omega
      · exact dec_dig q x h
    · have := dec_last q hq
      rw [List.getLast?_append]
      rcases hh : (decL q).getLast? with _ | z
      · rw [decL_pos q hq] at hh; simp at hh
      · rw [hh] at this; simpa using this
  have hn : n ≠ 0 := by
    intro h0
    rw [h0, Nat.zero_div] at hqe
    exact hq hqe.symm
  unfold decB
  rw [if_neg hn, if_neg hq, hP, List.map_append, List.reverse_append]

/-- The reference fills up with zeros and puts the point d digits ahead of the end. -/
theorem fix_ref (n d : Nat) (hd : 1 ≤ d) : fixT n d = (List.replicate (d + 1 - (decB n).length) 48 ++ decB n).take ((List.replicate (d + 1 - (decB n).length) 48 ++ decB n).length - d) ++ 46 :: (List.replicate (d + 1 - (decB n).length) 48 ++ decB n).drop ((List.replicate (d + 1 - (decB n).length) 48 ++ decB n).length - d) := by
  obtain ⟨p, hp⟩ : ∃ p, 10 ^ d = p := ⟨_, rfl⟩
  have hpp : 0 < p := by rw [← hp]; exact Nat.pow_pos (by omega)
  unfold fixT
  rw [if_neg (by omega)]
  have hm : n % 10 ^ d < 10 ^ d := by rw [hp]; exact Nat.mod_lt _ hpp
  have hl := frac_len hm hd
  suffices h : List.replicate (d + 1 - (decB n).length) 48 ++ decB n = decB (n / 10 ^ d) ++ fracT (n % 10 ^ d) d by
    rw [h, List.length_append, hl, Nat.add_sub_cancel, List.take_left, List.drop_left]
  by_cases hq : n / 10 ^ d = 0
  · have hn : n < 10 ^ d := by
      rw [hp] at hq ⊢
      rcases Nat.lt_or_ge n p with h | h
      · exact h
      · have := Nat.div_pos h hpp; omega
    rw [hq, Nat.mod_eq_of_lt hn]
    have h1 := decB_le_dig hn hd
    unfold fracT
    rw [show d + 1 - (decB n).length = (d - (decB n).length) + 1 by omega, List.replicate_succ]
    rfl
  · have e := dec_split hq hd
    have h1 : d + 1 ≤ (decB n).length := by
      rw [e, List.length_append, hl]
      have := decB_len (n / 10 ^ d)
      omega
    rw [show d + 1 - (decB n).length = 0 by omega, List.replicate_zero, List.nil_append]
    exact e

theorem pvF_acc (r : List UInt8) : ∀ a, r.foldl (fun acc c => 10 * acc + (c.toNat - 48)) a = a * 10 ^ r.length + pvF r := by
  induction r with
  | nil => intro a; simp [pvF]
  | cons c r ih =>
    intro a
    unfold pvF
    rw [List.foldl_cons, List.foldl_cons, ih, ih (10 * 0 + (c.toNat - 48)), List.length_cons, Nat.pow_succ]
    grind
theorem pvF_append (l r : List UInt8) : pvF (l ++ r) = pvF l * 10 ^ r.length + pvF r := by
  show List.foldl _ 0 (l ++ r) = _
  rw [List.foldl_append, pvF_acc]
  rfl
theorem pvF_zeros (k : Nat) : pvF (List.replicate k 48) = 0 := by
  induction k with
  | zero => rfl
  | succ k ih =>
    rw [List.replicate_succ', pvF_append, ih]
    rfl
theorem pvF_frac {m d : Nat} : pvF (fracT m d) = m := by
  unfold fracT
  rw [pvF_append, pvF_zeros, pvF_dec]; omega

theorem frac_ne (m d : Nat) : ∀ x ∈ fracT m d, x ≠ 46 := by
  intro x hx
  rcases List.mem_append.1 hx with h | h
  · rw [(List.mem_replicate.1 h).2]; decide
  · exact dec_ne m 46 rfl x h

/-! What the program reads. -/
def cutP (l : List UInt8) : List UInt8 × List UInt8 × Bool :=
  if Lib.indexByte l 46 < 0 then (l, [], false) else (l.take (Lib.indexByte l 46).toNat, l.drop ((Lib.indexByte l 46).toNat + 1), true)
def wholeF (l : List UInt8) : List UInt8 := (cutP l).1
def partF (l : List UInt8) : List UInt8 := if dropB 48 (cutP l).2.1 = [] then [48] else dropB 48 (cutP l).2.1
def valF (l : List UInt8) (d : Nat) : Nat := pvF (wholeF l) * 10 ^ d + pvF (partF l)
def okF (l : List UInt8) (d : Nat) : Bool := numB (wholeF l) && numB (partF l) && (fixT (valF l d) d == l)

theorem drop_zeros (k : Nat) (l : List UInt8) : dropB 48 (List.replicate k 48 ++ l) = dropB 48 l := by
  induction k with
  | zero => rfl
  | succ k ih => rw [List.replicate_succ, List.cons_append, dropB_yes rfl, ih]
theorem drop_dec {m : Nat} (h : m ≠ 0) : dropB 48 (decB m) = decB m := by
  have h1 := decB_len m
  have h2 : bat (decB m) 0 ≠ 48 := by
    intro e
    have h3 := decB_first m
    have h4 : (decB m).length = 1 := by
      rcases Nat.lt_or_ge 1 (decB m).length with g | g
      · exact absurd ⟨e, g⟩ h3
      · omega
    have h5 := pvF_dec m
    match hd : decB m, h4 with
    | [c], _ =>
      rw [hd] at h5 e
      have : c = 48 := e
      subst this
      exact h h5.symm
  match hd : decB m with
  | [] => rw [hd] at h1; simp at h1
  | c :: t =>
    rw [hd] at h2
    exact dropB_no h2
theorem drop_frac (m d : Nat) : (if dropB 48 (fracT m d) = [] then [48] else dropB 48 (fracT m d)) = decB m := by
  unfold fracT
  rw [drop_zeros]
  by_cases h : m = 0
  · subst h; rfl
  · rw [drop_dec h, if_neg (fun e => by have := decB_len m; rw [e] at this; simp at this)]

theorem cut_fix (n d : Nat) : wholeF (fixT n d) = decB (n / 10 ^ d) ∧ partF (fixT n d) = decB (n % 10 ^ d) := by
  unfold wholeF partF cutP fixT
  by_cases hd : d = 0
  · subst hd
    rw [if_pos rfl, ib_none (dec_ne n 46 rfl), if_pos (by decide)]
    rw [Nat.pow_zero, Nat.div_one, Nat.mod_one]
    exact ⟨rfl, rfl⟩
  · rw [if_neg hd, ib_app (dec_ne _ 46 rfl), if_neg (by omega)]
    rw [show ((decB (n / 10 ^ d)).length : Int).toNat = (decB (n / 10 ^ d)).length by omega, List.take_left]
    refine ⟨rfl, ?_⟩
    have e : (decB (n / 10 ^ d) ++ 46 :: fracT (n % 10 ^ d) d).drop ((decB (n / 10 ^ d)).length + 1) = fracT (n % 10 ^ d) d := by
      rw [List.drop_append]; simp
    rw [e]
    exact drop_frac _ _

theorem val_fix (n d : Nat) : valF (fixT n d) d = n := by
  obtain ⟨h1, h2⟩ := cut_fix n d
  unfold valF
  rw [h1, h2, pvF_dec, pvF_dec, Nat.mul_comm]
  exact Nat.div_add_mod n (10 ^ d)
theorem ok_fix (n d : Nat) : okF (fixT n d) d = true := by
  obtain ⟨h1, h2⟩ := cut_fix n d
  unfold okF
  rw [val_fix, h1, h2, numB_dec, numB_dec]
  simp
theorem okF_iff (l : List UInt8) (d : Nat) : okF l d = true ↔ ∃ n, fixT n d = l := by
  constructor
  · intro h
    unfold okF at h
    simp only [Bool.and_eq_true, beq_iff_eq] at h
    exact ⟨_, h.2⟩
  · rintro ⟨n, rfl⟩
    exact ok_fix n d

/-! What the reference reads. -/
def stripZ : Nat → List UInt8 → List UInt8
  | 0, l => l
  | f + 1, l => if 1 < l.length ∧ bat l 0 = 48 then stripZ f (l.drop 1) else l
def flatF (l : List UInt8) : List UInt8 := stripZ l.length (l.filter (· != 46))
def okR (l : List UInt8) (d : Nat) : Bool := numB (flatF l) && (fixT (pvF (flatF l)) d == l)

theorem strip_len (f : Nat) : ∀ l, (stripZ f l).length ≤ l.length := by
  induction f with
  | zero => intro l; exact Nat.le_refl _
  | succ f ih =>
    intro l
    unfold stripZ
    split
    · have := ih (l.drop 1)
      rw [List.length_drop] at this; omega
    · exact Nat.le_refl _
theorem strip_pv (f : Nat) : ∀ l, pvF (stripZ f l) = pvF l := by
  induction f with
  | zero => intro l; rfl
  | succ f ih =>
    intro l
    unfold stripZ
    split
    · rename_i h
      rw [ih]
      cases l with
      | nil => rfl
      | cons c t =>
        have : c = 48 := h.2
        subst this
        rw [show (48 :: t : List UInt8) = [48] ++ t from rfl, pvF_append]
        show pvF ((48 :: t).drop 1) = _
        simp [pvF]
    · rfl
theorem strip_num (f : Nat) : ∀ l : List UInt8, l.length ≤ f + 1 → l ≠ [] → l.all isDig = true → numB (stripZ f l) = true := by
  induction f with
  | zero =>
    intro l h1 h2 h3
    unfold stripZ numB
    cases l with
    | nil => exact absurd rfl h2
    | cons c t =>
      have : t = [] := by simpa using h1
      subst this
      simp only [List.all_cons, List.all_nil, Bool.and_true] at h3
      simp [h3]
  | succ f ih =>
    intro l h1 h2 h3
    unfold stripZ
    split
    · rename_i h
      cases l with
      | nil => exact absurd rfl h2
      | cons c t =>
        refine ih t (by simp at h1; omega) (fun e => by subst e; simp at h) ?_
        simp only [List.all_cons, Bool.and_eq_true] at h3
        exact h3.2
    · rename_i h
      unfold numB
      cases l with
      | nil => exact absurd rfl h2
      | cons c t =>
        rw [h3]
        by_cases g : 1 < (c :: t).length
        · have : bat (c :: t) 0 ≠ 48 := fun e => h ⟨g, e⟩
          simp [this]
        · simp at g
          simp [g]

theorem filter_self {l : List UInt8} (h : ∀ x ∈ l, x ≠ 46) : l.filter (· != 46) = l := by
  rw [List.filter_eq_self]
  intro x hx
  simpa using h x hx
theorem frac_all (m d : Nat) : (fracT m d).all isDig = true := by
  unfold fracT
  rw [List.all_append, dec_all, Bool.and_true, List.all_eq_true]
  intro x hx
  rw [(List.mem_replicate.1 hx).2]
  decide
theorem flat_fix (n d : Nat) : pvF (flatF (fixT n d)) = n ∧ numB (flatF (fixT n d)) = true := by
  unfold flatF
  have key : (fixT n d).filter (· != 46) ≠ [] ∧ ((fixT n d).filter (· != 46)).all isDig = true ∧ pvF ((fixT n d).filter (· != 46)) = n := by
    unfold fixT
    by_cases hd : d = 0
    · rw [if_pos hd, filter_self (dec_ne n 46 rfl)]
      exact ⟨fun e => by have := decB_len n; rw [e] at this; simp at this, dec_all n, pvF_dec n⟩
    · rw [if_neg hd, List.filter_append, filter_self (dec_ne _ 46 rfl), List.filter_cons_of_neg (by decide), filter_self (frac_ne _ _)]
      refine ⟨fun e => ?_, ?_, ?_⟩
      · have := decB_len (n / 10 ^ d)
        have h2 := congrArg List.length e
        rw [List.length_append] at h2
        simp at h2
        rw [h2.1] at this; simp at this
      · rw [List.all_append, dec_all, frac_all]; rfl
      · have hm : n % 10 ^ d < 10 ^ d := Nat.mod_lt _ (Nat.pow_pos (by omega))
        rw [pvF_append, frac_len hm (by omega), pvF_dec, pvF_frac, Nat.mul_comm]
        exact Nat.div_add_mod n (10 ^ d)
  refine ⟨by rw [strip_pv]; exact key.2.2, strip_num _ _ ?_ key.1 key.2.1⟩
  have := List.length_filter_le (· != (46 : UInt8)) (fixT n d)
  omega
theorem okR_iff (l : List UInt8) (d : Nat) : okR l d = true ↔ ∃ n, fixT n d = l := by
  constructor
  · intro h
    unfold okR at h
    simp only [Bool.and_eq_true, beq_iff_eq] at h
    exact ⟨_, h.2⟩
  · rintro ⟨n, rfl⟩
    unfold okR
    rw [(flat_fix n d).1, (flat_fix n d).2]
    simp
theorem ok_same (l : List UInt8) (d : Nat) : okR l d = okF l d := by
  rw [Bool.eq_iff_iff, okR_iff, okF_iff]
theorem val_same {l : List UInt8} {d : Nat} (h : okF l d = true) : pvF (flatF l) = valF l d := by
  obtain ⟨n, rfl⟩ := (okF_iff l d).1 h
  rw [(flat_fix n d).1, val_fix]

end Go.Proofs.Nums
