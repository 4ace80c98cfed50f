/- The statement IrvClones: for every input the law returns true and its arguments read as before. No condition. -/
import Derived.Test.YtbnhgmikegdppaaQO
import Derived.Deep.Slices
import Derived.Deep.Strs
import Derived.Lib.SmallJoins
import Derived.WalkKit
import Derived.ProofKit
import Derived.OpenShut
import Derived.ShutString
import Derived.ChangeOld
import Derived.Below
/- Clones, plain. -/
namespace Go.Proofs.Nums

theorem make_wt (R : Int → Bool) (bs : List (List Int)) (c : Int) : wt R (makeS bs) c = (bs.countP fun p => decide (firstC R p = c) : Nat) := make_sum _ _
/-- The ballot with n directly before (first) or after who. -/
def cloneB (who n : Int) (first : Bool) (p : List Int) : List Int := p.flatMap fun x => if x = who then (if first = true then [n, who] else [who, n]) else [x]
def pr (who n x : Int) : Int := if x = n then who else x
def proj (who n : Int) (R : Int → Bool) : Int → Bool := fun c => if c = who then R who || R n else R c && decide (c ≠ n)
theorem clone_find {who n : Int} {first : Bool} {R : Int → Bool} {p : List Int} (hw : who < n) (hp : ∀ x ∈ p, x < n) : ((cloneB who n first p).find? R).map (pr who n) = p.find? (proj who n R) := by
  induction p with
  | nil => rfl
  | cons a p ih =>
    have ha := hp a (by simp)
    have ih := ih fun x hx => hp x (by simp [hx])
    have e : cloneB who n first (a :: p) = (if a = who then (if first = true then [n, who] else [who, n]) else [a]) ++ cloneB who n first p := by simp [cloneB]
    have hnw : who ≠ n := by omega
    rw [e, List.find?_append, List.find?_cons]
    by_cases h : a = who
    · subst h
      have hpr : proj a n R a = (R a || R n) := by simp [proj]
      rw [if_pos rfl, hpr]
      cases first <;> cases h1 : R a <;> cases h2 : R n <;> simp [h1, h2, ih, pr, hnw]
    · have hpr : proj who n R a = R a := by simp only [proj, if_neg h]; simp; omega
      have han : ¬ a = n := by omega
      rw [if_neg h, hpr]
      cases h1 : R a <;> simp [h1, ih, pr, han]
theorem clone_first {who n : Int} {first : Bool} {R : Int → Bool} {p : List Int} (hw : who < n) (h0 : 0 ≤ who) (hp : ∀ x ∈ p, x < n) {c : Int} (hc : c ≠ -1) : firstC (proj who n R) p = c ↔ ∃ x, x ≠ -1 ∧ firstC R (cloneB who n first p) = x ∧ pr who n x = c := by
  rw [first_iff hc, ← clone_find (first := first) hw hp]
  constructor
  · intro h
    obtain ⟨x, h1, h2⟩ := Option.map_eq_some_iff.1 h
    have hx : x ≠ -1 := by
      rintro rfl
      unfold pr at h2
      rw [if_neg (by omega)] at h2
      exact hc h2.symm
    exact ⟨x, hx, (first_iff hx).2 h1, h2⟩
  · rintro ⟨x, hx, h1, h2⟩
    rw [(first_iff hx).1 h1, Option.map_some, h2]
/-- Ballots, and on which side of who the clone stands. -/
def plainB (bs : List (List Int × Bool)) : List (List Int) := bs.map Prod.fst
def clonedB (who n : Int) (bs : List (List Int × Bool)) : List (List Int) := bs.map fun b => cloneB who n b.2 b.1
theorem clone_other {who n : Int} {R : Int → Bool} {bs : List (List Int × Bool)} (hw : who < n) (h0 : 0 ≤ who) (hp : ∀ b ∈ bs, ∀ x ∈ b.1, x < n) {c : Int} (hc : c ≠ -1) (h1 : c ≠ who) (h2 : c ≠ n) :
    wt R (makeS (clonedB who n bs)) c = wt (proj who n R) (makeS (plainB bs)) c := by
  rw [make_wt, make_wt, clonedB, plainB, List.countP_map, List.countP_map]
  congr 1
  refine List.countP_congr fun b hb => ?_
  simp only [Function.comp, decide_eq_true_iff]
  rw [clone_first (first := b.2) hw h0 (hp b hb) hc]
  constructor
  · intro h
    exact ⟨c, hc, h, by unfold pr; rw [if_neg h2]⟩
  · rintro ⟨x, _, h, e⟩
    unfold pr at e
    split at e
    · exact absurd e.symm h1
    · rw [h, e]
theorem countP_split {α : Type} {l : List α} {f g h : α → Bool} (e : ∀ a ∈ l, (h a = true ↔ f a = true ∨ g a = true) ∧ ¬ (f a = true ∧ g a = true)) : l.countP h = l.countP f + l.countP g := by
  induction l with
  | nil => rfl
  | cons a l ih =>
    rw [List.countP_cons, List.countP_cons, List.countP_cons, ih fun a ha => e a (by simp [ha])]
    have := e a (by simp)
    cases hf : f a <;> cases hg : g a <;> cases hh : h a <;> simp [hf, hg, hh] at this ⊢ <;> omega
theorem clone_who {who n : Int} {R : Int → Bool} {bs : List (List Int × Bool)} (hw : who < n) (h0 : 0 ≤ who) (hp : ∀ b ∈ bs, ∀ x ∈ b.1, x < n) :
    wt (proj who n R) (makeS (plainB bs)) who = wt R (makeS (clonedB who n bs)) who + wt R (makeS (clonedB who n bs)) n := by
  rw [make_wt, make_wt, make_wt, clonedB, plainB, List.countP_map, List.countP_map, List.countP_map, ← Int.natCast_add]
  congr 1
  refine countP_split fun b hb => ?_
  simp only [Function.comp, decide_eq_true_iff]
  rw [clone_first (first := b.2) hw h0 (hp b hb) (by omega)]
  refine ⟨⟨?_, ?_⟩, fun ⟨h1, h2⟩ => ?_⟩
  · rintro ⟨x, _, h, e⟩
    unfold pr at e
    split at e
    · next g => exact .inr (h.trans g)
    · exact .inl (h.trans e)
  · rintro (h | h)
    · exact ⟨who, by omega, h, by unfold pr; split <;> rfl⟩
    · exact ⟨n, by omega, h, by unfold pr; rw [if_pos rfl]⟩
  · have := h1.symm.trans h2
    omega
theorem wt_gone {R : Int → Bool} {gs : List Grp} {c : Int} (h : c ≠ -1) (hR : R c = false) : wt R gs c = 0 := by
  have : wt R gs c = sumF (fun _ => false) gs := sumF_congr fun g _ => by
    rw [decide_eq_false_iff_not, first_iff h]
    intro e
    have := List.find?_some e
    rw [hR] at this
    simp at this
  rw [this]
  clear this
  unfold sumF
  induction gs with
  | nil => rfl
  | cons g gs ih => simpa using ih
/-- What remains with the clone remains without it. -/
theorem clone_sim {who n : Int} {bs : List (List Int × Bool)} (hw : who < n) (h0 : 0 ≤ who) (hp : ∀ b ∈ bs, ∀ x ∈ b.1, x < n) {R : Int → Bool} (h : Rch (n + 1) (makeS (clonedB who n bs)) R) : Rch n (makeS (plainB bs)) (proj who n R) := by
  have hpos := make_pos (clonedB who n bs)
  have hnw : who ≠ n := by omega
  induction h with
  | full =>
    have e : proj who n (fun c => decide (0 ≤ c ∧ c < n + 1)) = fun c => decide (0 ≤ c ∧ c < n) := by
      funext c
      unfold proj
      by_cases hc : c = who
      · subst hc
        rw [if_pos rfl]
        rw [Bool.eq_iff_iff]
        simp only [Bool.or_eq_true, decide_eq_true_iff]
        omega
      · rw [if_neg hc]
        rw [Bool.eq_iff_iff]
        simp only [Bool.and_eq_true, decide_eq_true_iff]
        omega
    rw [e]; exact Rch.full
  | @step R x d h hl hd hdx ih =>
    have hrx := h.range x hl.1
    have hrd := h.range d hd
    by_cases hx : x = who ∨ x = n
    · by_cases hb : R who = true ∧ R n = true
      · have e : proj who n (fun d => R d && decide (d ≠ x)) = proj who n R := by
          funext c
          unfold proj
          by_cases hc : c = who
          · rw [if_pos hc, if_pos hc, hb.1, hb.2]
            rcases hx with hx | hx
            · subst hx; simp [hnw.symm, hb.2]
            · subst hx; simp [hnw, hb.1]
          · rw [if_neg hc, if_neg hc]
            by_cases hcn : c = n
            · simp [hcn]
            · have : c ≠ x := by rcases hx with hx | hx <;> (rw [hx]; assumption)
              simp [this, hcn]
        rw [e]; exact ih
      · have hone : (x = who ∧ R n = false) ∨ (x = n ∧ R who = false) := by
          rcases hx with hx | hx
          · left
            refine ⟨hx, ?_⟩
            cases g : R n with
            | false => rfl
            | true => exact absurd ⟨hx ▸ hl.1, g⟩ hb
          · right
            refine ⟨hx, ?_⟩
            cases g : R who with
            | false => rfl
            | true => exact absurd ⟨g, hx ▸ hl.1⟩ hb
        have hdw : d ≠ who ∧ d ≠ n := by
          rcases hone with ⟨h1, h2⟩ | ⟨h1, h2⟩
          · refine ⟨fun e => hdx (e.trans h1.symm), fun e => ?_⟩
            rw [← e, hd] at h2; simp at h2
          · refine ⟨fun e => ?_, fun e => hdx (e.trans h1.symm)⟩
            rw [← e, hd] at h2; simp at h2
        have hwx : wt (proj who n R) (makeS (plainB bs)) who = wt R (makeS (clonedB who n bs)) x := by
          rw [clone_who hw h0 hp]
          rcases hone with ⟨h1, h2⟩ | ⟨h1, h2⟩
          · rw [wt_gone (by omega) h2, h1]; omega
          · rw [wt_gone (by omega) h2, h1]; omega
        have hpw : proj who n R who = true := by
          unfold proj
          rw [if_pos rfl]
          rcases hx with hx | hx <;> (rw [← hx, hl.1]; simp)
        have e : proj who n (fun d => R d && decide (d ≠ x)) = fun d => proj who n R d && decide (d ≠ who) := by
          funext c
          unfold proj
          by_cases hc : c = who
          · rw [if_pos hc, if_pos hc]
            rcases hone with ⟨h1, h2⟩ | ⟨h1, h2⟩
            · simp [h1, h2, hc]
            · simp [h1, h2, hc]
          · rw [if_neg hc, if_neg hc]
            by_cases hcn : c = n
            · simp [hcn]
            · have : c ≠ x := by rcases hx with hx | hx <;> (rw [hx]; assumption)
              simp [this, hcn, hc]
        rw [e]
        refine Rch.step (d := d) ih ⟨hpw, fun y hy => ?_⟩ (by unfold proj; rw [if_neg hdw.1]; simp [hd, hdw.2]) hdw.1
        by_cases hyw : y = who
        · rw [hyw]; exact Int.le_refl _
        · have hy2 : R y = true ∧ y ≠ n := by
            unfold proj at hy
            rw [if_neg hyw] at hy
            simpa using hy
          have := hl.2 y hy2.1
          rw [hwx, ← clone_other hw h0 hp (by have := h.range y hy2.1; omega) hyw hy2.2]
          exact this
    · have hx1 : x ≠ who := fun e => hx (.inl e)
      have hx2 : x ≠ n := fun e => hx (.inr e)
      have e : proj who n (fun d => R d && decide (d ≠ x)) = fun d => proj who n R d && decide (d ≠ x) := by
        funext c
        unfold proj
        by_cases hc : c = who
        · rw [if_pos hc, if_pos hc]
          simp [hc, hx1.symm, hx2.symm]
        · rw [if_neg hc, if_neg hc]
          by_cases hcx : c = x
          · simp [hcx]
          · simp [hcx]
      rw [e]
      have hpx : proj who n R x = true := by unfold proj; rw [if_neg hx1]; simp [hl.1, hx2]
      refine Rch.step (d := pr who n d) ih ⟨hpx, fun y hy => ?_⟩ ?_ ?_
      · rw [← clone_other hw h0 hp (by omega) hx1 hx2]
        by_cases hyw : y = who
        · subst hyw
          rw [clone_who hw h0 hp]
          have a1 : 0 ≤ wt R (makeS (clonedB y n bs)) y := sumF_nn hpos
          have a2 : 0 ≤ wt R (makeS (clonedB y n bs)) n := sumF_nn hpos
          unfold proj at hy
          rw [if_pos rfl, Bool.or_eq_true] at hy
          rcases hy with g | g
          · have := hl.2 y g; omega
          · have := hl.2 n g; omega
        · have hy2 : R y = true ∧ y ≠ n := by
            unfold proj at hy
            rw [if_neg hyw] at hy
            simpa using hy
          rw [← clone_other hw h0 hp (by have := h.range y hy2.1; omega) hyw hy2.2]
          exact hl.2 y hy2.1
      · unfold pr proj
        by_cases hdn : d = n
        · subst hdn; simp [hd]
        · rw [if_neg hdn]
          by_cases hdw : d = who
          · subst hdw; simp [hd]
          · rw [if_neg hdw]; simp [hd, hdn]
      · unfold pr
        split
        · exact hx1.symm
        · exact hdx
theorem clones {who n : Int} {bs : List (List Int × Bool)} (hw : who < n) (h0 : 0 ≤ who) (hp : ∀ b ∈ bs, ∀ x ∈ b.1, x < n) {c : Int} (h : Rch (n + 1) (makeS (clonedB who n bs)) (single c)) : Rch n (makeS (plainB bs)) (single (if c = n then who else c)) := by
  have := clone_sim hw h0 hp h
  have e : proj who n (single c) = single (if c = n then who else c) := by
    funext y
    unfold proj single
    by_cases hc : c = n
    · rw [if_pos hc]
      by_cases hy : y = who
      · simp [hy, hc]
      · rw [if_neg hy]; simp [hy, hc]
    · rw [if_neg hc]
      by_cases hy : y = who
      · subst hy; simp; omega
      · rw [if_neg hy]
        by_cases g : y = c
        · simp [g]; omega
        · simp [g]
  rw [e] at this
  exact this

end Go.Proofs.Nums

/- IrvClones: the plain law and the walk. -/
namespace Go.Proofs.Nums

theorem poss_ne1 {n : Nat} {gs : List Grp} (h1 : 1 ≤ n) (h7 : n ≤ 7) : possS n gs ≠ [] := by
  obtain ⟨w, _, hr⟩ := order_can (brk := brkS 3 (permS n 0)) (gs := gs) (n := (n : Int)) n (List.replicate n true) [] (by rw [List.length_replicate]; exact brk_in ⟨perm_bal n 0, perm_len n 0⟩ (by omega) (by omega) h1 h7) (by rw [alive_all_len]; exact Nat.le_refl _) (fun e => by have := alive_all_len n; rw [e] at this; simp at this; omega) (by rw [rem_full]; exact Rch.full)
  have hw := hr.range w (by unfold single; simp)
  exact List.ne_nil_of_mem (mem_poss.2 ⟨hw.1, hw.2, hr⟩)
theorem clone_nil (who n : Int) (f : Bool) : cloneB who n f [] = [] := rfl
theorem clone_snoc (who n : Int) (f : Bool) (p : List Int) (y : Int) : cloneB who n f (p ++ [y]) = cloneB who n f p ++ (if y = who then (if f = true then [n, who] else [who, n]) else [y]) := by
  unfold cloneB
  rw [List.flatMap_append]
  simp
theorem clone_mem {who n : Int} {f : Bool} {p : List Int} {x : Int} (h : x ∈ cloneB who n f p) : x ∈ p ∨ x = n := by
  unfold cloneB at h
  obtain ⟨y, hy, hx⟩ := List.mem_flatMap.1 h
  split at hx
  · next e =>
    subst e
    split at hx
    · simp at hx
      rcases hx with rfl | rfl
      · exact .inr rfl
      · exact .inl hy
    · simp at hx
      rcases hx with rfl | rfl
      · exact .inl hy
      · exact .inr rfl
  · rw [List.mem_singleton] at hx
    rw [hx]
    exact .inl hy
theorem clone_id {who n : Int} {f : Bool} : ∀ {p : List Int}, who ∉ p → cloneB who n f p = p
  | [], _ => rfl
  | x :: p, h => by
    have hx : x ≠ who := fun e => h (by rw [e]; exact List.mem_cons_self ..)
    have ih := clone_id (n := n) (f := f) (p := p) (fun e => h (List.mem_cons_of_mem _ e))
    unfold cloneB at ih ⊢
    rw [List.flatMap_cons, if_neg hx, ih]
    rfl
theorem clone_nodup {who : Int} {n : Nat} {f : Bool} : ∀ {p : List Int}, who < n → BalP n p → (cloneB who n f p).Nodup
  | [], _, _ => List.nodup_nil
  | x :: p, hw, h => by
    have hn := List.nodup_cons.1 h.2
    have hb : BalP n p := ⟨fun c hc => h.1 c (List.mem_cons_of_mem _ hc), hn.2⟩
    have hnp : (n : Int) ∉ p := fun e => by have := hb.1 _ e; omega
    by_cases hx : x = who
    · subst hx
      have hid : cloneB x n f p = p := clone_id hn.1
      unfold cloneB at hid ⊢
      rw [List.flatMap_cons, if_pos rfl, hid]
      cases f
      · show (x :: (n : Int) :: p).Nodup
        refine List.nodup_cons.2 ⟨fun e => ?_, List.nodup_cons.2 ⟨hnp, hn.2⟩⟩
        rcases List.mem_cons.1 e with e | e
        · omega
        · exact hn.1 e
      · show ((n : Int) :: x :: p).Nodup
        refine List.nodup_cons.2 ⟨fun e => ?_, List.nodup_cons.2 ⟨hn.1, hn.2⟩⟩
        rcases List.mem_cons.1 e with e | e
        · omega
        · exact hnp e
    · have ih := clone_nodup (f := f) hw hb
      have hxm : x ∉ cloneB who n f p := fun e => by
        rcases clone_mem e with e | e
        · exact hn.1 e
        · have := h.1 x (List.mem_cons_self ..); omega
      unfold cloneB at ih hxm ⊢
      rw [List.flatMap_cons, if_neg hx]
      exact List.nodup_cons.2 ⟨hxm, ih⟩
theorem clone_bal {who : Int} {n : Nat} {f : Bool} {p : List Int} (hw : who < n) (h : BalP n p) : BalP ((n + 1 : Nat) : Int) (cloneB who n f p) :=
  ⟨fun c hc => by
    rcases clone_mem hc with e | e
    · have := h.1 c e; omega
    · omega, clone_nodup hw h⟩
/-- The ballots with the clone, the first i. -/
def cloTo (who n : Int) (M : List (List Int)) (B : List Bool) (i : Nat) : List (List Int) := (List.range i).map fun j => cloneB who n (B.getD j false) (M.getD j [])
theorem cloTo_step (who n : Int) (M : List (List Int)) (B : List Bool) (i : Nat) : cloTo who n M B (i + 1) = cloTo who n M B i ++ [cloneB who n (B.getD i false) (M.getD i [])] := by
  unfold cloTo
  rw [List.range_succ, List.map_append]
  rfl
theorem cloTo_len (who n : Int) (M : List (List Int)) (B : List Bool) (i : Nat) : (cloTo who n M B i).length = i := by unfold cloTo; simp
theorem range_getD {α : Type} (M : List α) (d : α) : (List.range M.length).map (fun i => M.getD i d) = M := by
  refine List.ext_getElem? fun i => ?_
  rw [List.getElem?_map]
  by_cases h : i < M.length
  · rw [List.getElem?_range h, List.getElem?_eq_getElem h]
    simp [List.getD_eq_getElem?_getD, List.getElem?_eq_getElem h]
  · rw [List.getElem?_eq_none (by simpa using h), List.getElem?_eq_none (by omega)]
    rfl
theorem clone_law {who : Int} {n : Nat} {M : List (List Int)} {B : List Bool} (hw : who < n) (h0 : 0 ≤ who) (hM : ∀ b ∈ M, BalP n b) {c : Int} (h : c ∈ possS (n + 1) (makeS (cloTo who n M B M.length))) :
    (c ≠ n → hasB (possS n (makeS M)) c = true) ∧ (c = n → hasB (possS n (makeS M)) who = true) := by
  obtain ⟨c0, c1, hr⟩ := mem_poss.1 h
  obtain ⟨bs, hbs⟩ : ∃ bs : List (List Int × Bool), bs = (List.range M.length).map fun i => (M.getD i [], B.getD i false) := ⟨_, rfl⟩
  have e1 : plainB bs = M := by
    rw [hbs]
    unfold plainB
    rw [List.map_map]
    exact range_getD M []
  have e2 : clonedB who n bs = cloTo who n M B M.length := by
    rw [hbs]
    unfold clonedB cloTo
    rw [List.map_map]
    rfl
  have hp : ∀ b ∈ bs, ∀ x ∈ b.1, x < (n : Int) := fun b hb x hx => by
    have : b.1 ∈ plainB bs := List.mem_map.2 ⟨b, hb, rfl⟩
    rw [e1] at this
    exact ((hM b.1 this).1 x hx).2
  have hc := clones (who := who) (n := (n : Int)) (bs := bs) hw h0 hp (c := c) (by rw [e2]; exact hr)
  rw [e1] at hc
  constructor
  · intro hne
    rw [if_neg hne] at hc
    exact hasB_true.2 (mem_poss.2 ⟨c0, by omega, hc⟩)
  · intro he
    rw [if_pos he] at hc
    exact hasB_true.2 (mem_poss.2 ⟨h0, hw, hc⟩)

end Go.Proofs.Nums
namespace Go.Proofs.Ytbnhgmikegdppaa
open Go.RowKit Go.Proofs.Kit Go.Proofs.Nums

set_option maxHeartbeats 1000000 in
theorem clones_few (n who : Int) {v vb : Value} {L : List (List Int)} {w : World} (hv : GridAt w v L) (hf : fewB L = false) :
    Calls Try.prog 7 #[.int .i64 n, v, .int .i64 who, vb] w fun e w' => e = .returned (.bool true) ∧ Below w.heap.size w w' := by
  have FW := few_c hv
  rw [hf] at FW
  have FW := Lib.hid FW
  clear hv hf
  go_enter Try.func7, Try.ntmps7
  go_wp2_with (first
    | (go_at_call 11; ((with_reducible refine FW.out.mono ?_); rintro _ w1 ⟨rfl, rfl⟩))
    | (go_at_call 12; ((with_reducible refine (awake26 _).mono ?_); rintro _ w2 ⟨rfl, hb2⟩)))
  go_ret
  exact ⟨rfl, hb2⟩

theorem mod_one6 (x : Int) : ∃ k : Nat, 1 + x % 6 = (k : Int) ∧ 1 ≤ k ∧ k ≤ 6 := ⟨(1 + x % 6).toNat, by omega, by omega, by omega⟩

set_option maxRecDepth 100000 in
set_option maxHeartbeats 8000000 in
theorem walk_IrvClones (n : Int) {v : Value} {L : List (List Int)} {w : World} (hv : GridAt w v L) (who : Int) {vb : Value} {B : List Bool} (hB : BoolsAt w vb B) :
    Calls Try.prog 7 #[.int .i64 n, v, .int .i64 who, vb] w fun e w' => e = .returned (.bool true) ∧ Below w.heap.size w w' := by
  cases hf : fewB L with
  | false => exact clones_few n who hv hf
  | true =>
  obtain ⟨hf1, hf2⟩ := few_true.1 hf
  have FW := few_c hv
  rw [hf] at FW
  have FW := Lib.hid FW
  obtain ⟨k, hk, k1, k6⟩ := mod_one6 n
  obtain ⟨z, hz⟩ : ∃ z, n % 6 = z := ⟨_, rfl⟩
  rw [hz] at hk
  have M6 : Hid (∀ w, Calls Try.prog 16 #[.int .i64 n, .int .i64 6] w fun e w' => e = .returned (.int .i64 z) ∧ w = w') := Lib.hid (fun w => by rw [← hz]; exact mod_c n 6 (by omega) (by omega) w)
  have e2 : IntKind.i64.wrap (k : Int) = k := w64 (by omega) (by omega)
  have e3 : IntKind.i64.wrap ((k : Int) + 1) = (k : Int) + 1 := w64 (by omega) (by omega)
  obtain ⟨x0, hx0⟩ : ∃ x : Nat, who % (k : Int) = x := ⟨(who % (k : Int)).toNat, by have := Int.emod_nonneg who (show (k : Int) ≠ 0 by omega); omega⟩
  have hx0k : x0 < k := by have := Int.emod_lt_of_pos who (show 0 < (k : Int) by omega); omega
  have MW : Hid (∀ w, Calls Try.prog 16 #[.int .i64 who, .int .i64 k] w fun e w' => e = .returned (.int .i64 x0) ∧ w = w') := Lib.hid (fun w => by rw [← hx0]; exact mod_c who k (by omega) (by omega) w)
  have BA := Lib.hid (fun wq (h : Below w.heap.size w wq) => mballots_c (hv.keep h) k1 (by omega) hf1 hf2)
  obtain ⟨pv, cv, rfl⟩ := hv.shp
  obtain ⟨bl, hbl⟩ : ∃ n, L.length = n := ⟨_, rfl⟩
  have hml : (L.map (ballotS k)).length = bl := by rw [List.length_map, hbl]
  have hmb : ∀ b ∈ L.map (ballotS k), BalP k b := fun b hb => by
    obtain ⟨l, _, rfl⟩ := List.mem_map.1 hb
    exact ballot_bal k1 l
  obtain ⟨M, hM⟩ : ∃ M, L.map (ballotS k) = M := ⟨_, rfl⟩
  rw [hM] at BA hml hmb
  rw [hbl] at BA FW hf2 ⊢
  have HML := Lib.hid hml
  have HMB := Lib.hid hmb
  have HBO := Lib.hid hB
  have hBm := hB.len
  obtain ⟨pb, cb, rfl⟩ := hB.shape
  obtain ⟨lb, hlb⟩ : ∃ n, B.length = n := ⟨_, rfl⟩
  have HLB := Lib.hid hlb
  rw [hlb] at HBO hBm ⊢
  have MK1 := Lib.hid (fun wq v (h : GridAt wq v M) => rmake_c (n := k) h k1 (by omega) hmb (by omega))
  have hp1 := make_pile (n := (k : Int)) hmb (show M.length ≤ 100000 by omega)
  have PO1 := Lib.hid (fun wq vg (h : PileAt wq vg (makeS M)) => possible_c (n := k) h k1 (by omega) hp1)
  have hcb : ∀ b ∈ cloTo x0 k M B bl, BalP ((k + 1 : Nat) : Int) b := fun b hb => by
    unfold cloTo at hb
    obtain ⟨j, hj, rfl⟩ := List.mem_map.1 hb
    have hjl : j < M.length := by have := List.mem_range.1 hj; omega
    refine clone_bal (by omega) ?_
    rw [List.getD_eq_getElem?_getD, List.getElem?_eq_getElem hjl]
    exact hmb _ (List.getElem_mem hjl)
  have hcl := cloTo_len (x0 : Int) (k : Int) M B bl
  have MK2 := Lib.hid (fun wq v (h : GridAt wq v (cloTo x0 k M B bl)) => rmake_c (n := k + 1) h (by omega) (by omega) hcb (by omega))
  have hp2 := make_pile hcb (by rw [hcl]; omega)
  have PO2 := Lib.hid (fun wq vg (h : PileAt wq vg (makeS (cloTo x0 k M B bl))) => possible_c (n := k + 1) h (by omega) (by omega) hp2)
  have HLW : Hid (∀ c, c ∈ possS (k + 1) (makeS (cloTo x0 k M B bl)) → (c ≠ k → hasB (possS k (makeS M)) c = true) ∧ (c = k → hasB (possS k (makeS M)) x0 = true)) := Lib.hid (fun c hc => clone_law (B := B) (by omega) (by omega) hmb (by rw [hml]; exact hc))
  have hpn := poss_ne1 (n := k + 1) (gs := makeS (cloTo x0 k M B bl)) (by omega) (by omega)
  have hnl : (possS (k + 1) (makeS (cloTo x0 k M B bl))).length ≤ k + 1 := canTo_len _ _ _
  obtain ⟨now, hnow⟩ : ∃ l, possS (k + 1) (makeS (cloTo x0 k M B bl)) = l := ⟨_, rfl⟩
  obtain ⟨old, hold⟩ : ∃ l, possS k (makeS M) = l := ⟨_, rfl⟩
  rw [hnow] at PO2 HLW hpn hnl
  rw [hold] at PO1 HLW
  have hpl := List.length_pos_iff.2 hpn
  obtain ⟨nl, hnlq⟩ : ∃ n, now.length = n := ⟨_, rfl⟩
  rw [hnlq] at hpl hnl
  have HNL := Lib.hid hnlq
  have HST := Lib.hid (fun i => cloTo_step (x0 : Int) (k : Int) M B i)
  have ek1 : ((k + 1 : Nat) : Int) = (k : Int) + 1 := by omega
  rw [ek1] at MK2 PO2
  clear hz hf hf1 hv hbl hM hml hmb hB hlb hp1 hcb hcl hp2 hpn hnow hold hnlq ek1 hx0
  go_enter Try.func7, Try.ntmps7
  go_wp2_with (first
    | (go_at_call 11; ((with_reducible refine FW.out.mono ?_); rintro _ w1 ⟨rfl, rfl⟩))
    | (go_at_call 16; ((with_reducible refine (M6.out _).mono ?_); rintro _ w2 ⟨rfl, rfl⟩))
    | (go_at_call 16; ((with_reducible refine (MW.out _).mono ?_); rintro _ w2 ⟨rfl, rfl⟩))
    | (go_at_call 35; ((with_reducible refine (BA.out _ (Below.refl _ _)).mono ?_); rintro _ w3 ⟨v3, rfl, ⟨css3, h3⟩, hb3⟩; have hg3 : GridAt w3 v3 M := h3.slice; obtain ⟨p3, c3, rfl⟩ := hg3.shp)))
  rw [HML.out] at hg3 h3 ⊢
  have HG3 := Lib.hid hg3
  clear h3 hg3
  go_loopw [10, 11] (fun ov iv wr => ∃ i : Nat, ∃ css, i ≤ bl ∧ iv = .int .i64 i ∧ Below w3.heap.size w3 wr ∧ Hid (ILst w3.heap.size ov wr (cloTo x0 k M B i) css)) (fun _ iv _ => bl - (intOf iv).toNat)
  case atStart => exact ⟨0, [], by omega, rfl, Below.refl _ _, Lib.hid (Lst.nil _)⟩
  case round =>
    obtain ⟨i, css, hi, rfl, hbel, hL⟩ := hrel
    obtain ⟨wo, rfl⟩ : ∃ x, x = wr := ⟨_, rfl⟩
    by_cases hlt : i < bl
    · have hltz : (i : Int) < (bl : Int) := by omega
      obtain ⟨b, hbk⟩ : ∃ b, M.getD i [] = b := ⟨_, rfl⟩
      obtain ⟨bb, off, u, hp0, hc1, hc2, hcell, hrow⟩ := (HG3.out.keep hbel).cellAt (by rw [HML.out]; exact hlt) hbk
      subst hp0
      have hbm : b ∈ M := by
        rw [← hbk, List.getD_eq_getElem?_getD, List.getElem?_eq_getElem (by rw [HML.out]; exact hlt)]
        exact List.getElem_mem _
      have hbal := HMB.out b hbm
      have hb7 : b.length ≤ 6 := Nat.le_trans (nodup_len k b hbal.2 hbal.1) k6
      have HR := Lib.hid hrow
      obtain ⟨q, d, rfl⟩ := hrow.shape
      obtain ⟨ln, hln⟩ : ∃ n, b.length = n := ⟨_, rfl⟩
      have HLN := Lib.hid hln
      rw [hln] at hb7 HR hcell
      have HCE := Lib.hid hcell
      obtain ⟨f, hf⟩ : ∃ f, B.getD i false = f := ⟨_, rfl⟩
      have HSTEP : Hid (cloTo x0 k M B (i + 1) = cloTo x0 k M B i ++ [cloneB x0 k f b]) := Lib.hid (by rw [HST.out, hbk, hf])
      have HBW := Lib.hid ((HBO.out.keep hb3).keep hbel)
      have HF := Lib.hid hf
      have hLr := Lib.hid hL.out
      have hlen := cloTo_len (x0 : Int) (k : Int) M B i
      have hwo3 := hbel.size
      clear hbk hrow hbm hbal hln hcell hf
      go_wp2_with fail
      go_loopw [12, 13] (fun pv jv wq => ∃ j m : Nat, j ≤ ln ∧ m ≤ 2 * j ∧ jv = .int .i64 j ∧ wq.ownsRow wo.heap.size 3 1 pv m ((cloneB x0 k f (b.take j)).map (Value.int .i64)) ∧ Below wo.heap.size wo wq) (fun _ jv _ => ln - (intOf jv).toNat)
      case atStart => exact ⟨0, 0, by omega, by omega, rfl, (World.ownsRow_nil _ _ _ _ : wo.ownsRow wo.heap.size 3 1 (.slice none 0 0) 0 []), Below.refl _ _⟩
      case round =>
        obtain ⟨j, m, hj, hm, rfl, hown, hbq⟩ := hrel
        have hcellk := cell_keep hbq HCE.out
        by_cases hjl : j < ln
        · have hjz : (j : Int) < (ln : Int) := by omega
          obtain ⟨b2, o2, e4, _, _, hcy⟩ := (HR.out.keep hbq).cellAt j (by rw [HLN.out]; exact hjl)
          subst e4
          obtain ⟨y, hy⟩ : ∃ y, b.getD j 0 = y := ⟨_, rfl⟩
          rw [hy] at hcy
          have hsn := take_snoc_i (l := b) (k := j) (by rw [HLN.out]; exact hjl)
          rw [hy] at hsn
          have hcs := clone_snoc (x0 : Int) (k : Int) f (b.take j) y
          rw [← hsn] at hcs
          have HYV := Lib.hid hy
          clear hsn hy
          have HCY : Hid (wo.cell? ⟨b2, o2 + j, none⟩ = some (.int .i64 y)) := by
            obtain ⟨b5, o5, e5, _, _, hc5⟩ := HR.out.cellAt j (by rw [HLN.out]; exact hjl)
            simp only [Option.some.injEq, Addr.mk.injEq, and_true] at e5
            obtain ⟨rfl, rfl⟩ := e5
            rw [HYV.out] at hc5
            exact Lib.hid hc5
          by_cases hib : i < lb
          · have hibz : (i : Int) < (lb : Int) := by omega
            obtain ⟨b6, o6, e6, _, _, hcf⟩ := HBW.out.cellAt i (by rw [HLB.out]; exact hib)
            subst e6
            rw [HF.out] at hcf
            have hcfq := cell_keep hbq hcf
            have HCF := Lib.hid hcf
            cases f
            · by_cases hyw : y = (x0 : Int)
              · have q1 : (y == (x0 : Int)) = true := by rw [hyw]; simp
                subst hyw
                rw [if_pos rfl, if_neg (by simp)] at hcs
                have HF2 : Hid (cloneB x0 k false (b.take (j + 1)) = cloneB x0 k false (b.take j) ++ [(x0 : Int), (k : Int)]) := Lib.hid hcs
                clear hcs
                go_wp2_with (at_builtin; (first
                  | (refine append_one erI rfl rfl hown1 rfl rfl rfl (by simp [Value.oneCell']) (by omega) (by omega) hbq1.size ?_; intro v2 w2 hown2 _ hb2 hne2; have hbq2 := hbq1.trans hb2; have hcellk2 := cell_keep hbq2 HCE.out; have hcy2 := cell_keep hbq2 HCY.out)
                  | (refine append_one erI rfl rfl hown rfl rfl rfl (by simp [Value.oneCell']) (by omega) (by omega) hbq.size ?_; intro v1 w1 hown1 _ hb1 hne1; have hbq1 := hbq.trans hb1; have hcellk1 := cell_keep hbq1 HCE.out; have hcy1 := cell_keep (show Below wo.heap.size wo w1 from hbq1) HCY.out; have hcf1 := cell_keep hbq1 HCF.out)))
                have HO : Hid (w2.ownsRow wo.heap.size 3 1 v2 (m + 1 + 1) ((cloneB x0 k false (b.take (j + 1))).map (Value.int .i64))) := Lib.hid (by rw [HF2.out, List.map_append]; simpa [List.append_assoc] using hown2)
                go_roundw
                case rel => exact ⟨j + 1, m + 1 + 1, by omega, by omega, by go_num, HO.out, hbq2⟩
                case measure => simp [intOf] <;> omega
              · have q1 : (y == (x0 : Int)) = false := by rw [beq_eq_false_iff_ne]; exact hyw
                rw [if_neg hyw] at hcs
                have HF2 : Hid (cloneB x0 k false (b.take (j + 1)) = cloneB x0 k false (b.take j) ++ [y]) := Lib.hid hcs
                clear hcs
                go_wp2_with (at_builtin; go_must (refine append_one erI rfl rfl hown rfl rfl rfl (by simp [Value.oneCell']) (by omega) (by omega) hbq.size ?_); intro v1 w1 hown1 _ hb1 hne1; have hbq1 := hbq.trans hb1; have hcellk1 := cell_keep hbq1 HCE.out; have hcy1 := cell_keep hbq1 HCY.out)
                have HO : Hid (w1.ownsRow wo.heap.size 3 1 v1 (m + 1) ((cloneB x0 k false (b.take (j + 1))).map (Value.int .i64))) := Lib.hid (by rw [HF2.out, List.map_append]; exact hown1)
                go_roundw
                case rel => exact ⟨j + 1, m + 1, by omega, by omega, by go_num, HO.out, hbq1⟩
                case measure => simp [intOf] <;> omega
            · by_cases hyw : y = (x0 : Int)
              · have q1 : (y == (x0 : Int)) = true := by rw [hyw]; simp
                subst hyw
                rw [if_pos rfl, if_pos rfl] at hcs
                have HF2 : Hid (cloneB x0 k true (b.take (j + 1)) = cloneB x0 k true (b.take j) ++ [(k : Int), (x0 : Int)]) := Lib.hid hcs
                clear hcs
                go_wp2_with (at_builtin; (first
                  | (refine append_one erI rfl rfl hown1 rfl rfl rfl (by simp [Value.oneCell']) (by omega) (by omega) hbq1.size ?_; intro v2 w2 hown2 _ hb2 hne2; have hbq2 := hbq1.trans hb2; have hcellk2 := cell_keep hbq2 HCE.out; have hcy2 := cell_keep hbq2 HCY.out)
                  | (refine append_one erI rfl rfl hown rfl rfl rfl (by simp [Value.oneCell']) (by omega) (by omega) hbq.size ?_; intro v1 w1 hown1 _ hb1 hne1; have hbq1 := hbq.trans hb1; have hcellk1 := cell_keep hbq1 HCE.out; have hcy1 := cell_keep (show Below wo.heap.size wo w1 from hbq1) HCY.out; have hcf1 := cell_keep hbq1 HCF.out)))
                have HO : Hid (w2.ownsRow wo.heap.size 3 1 v2 (m + 1 + 1) ((cloneB x0 k true (b.take (j + 1))).map (Value.int .i64))) := Lib.hid (by rw [HF2.out, List.map_append]; simpa [List.append_assoc] using hown2)
                go_roundw
                case rel => exact ⟨j + 1, m + 1 + 1, by omega, by omega, by go_num, HO.out, hbq2⟩
                case measure => simp [intOf] <;> omega
              · have q1 : (y == (x0 : Int)) = false := by rw [beq_eq_false_iff_ne]; exact hyw
                rw [if_neg hyw] at hcs
                have HF2 : Hid (cloneB x0 k true (b.take (j + 1)) = cloneB x0 k true (b.take j) ++ [y]) := Lib.hid hcs
                clear hcs
                go_wp2_with (at_builtin; go_must (refine append_one erI rfl rfl hown rfl rfl rfl (by simp [Value.oneCell']) (by omega) (by omega) hbq.size ?_); intro v1 w1 hown1 _ hb1 hne1; have hbq1 := hbq.trans hb1; have hcellk1 := cell_keep hbq1 HCE.out; have hcy1 := cell_keep hbq1 HCY.out)
                have HO : Hid (w1.ownsRow wo.heap.size 3 1 v1 (m + 1) ((cloneB x0 k true (b.take (j + 1))).map (Value.int .i64))) := Lib.hid (by rw [HF2.out, List.map_append]; exact hown1)
                go_roundw
                case rel => exact ⟨j + 1, m + 1, by omega, by omega, by go_num, HO.out, hbq1⟩
                case measure => simp [intOf] <;> omega
          · have hibz : ¬ (i : Int) < (lb : Int) := by omega
            have hff : f = false := by rw [← HF.out, List.getD_eq_getElem?_getD, List.getElem?_eq_none (by rw [HLB.out]; omega)]; rfl
            subst hff
            by_cases hyw : y = (x0 : Int)
            · have q1 : (y == (x0 : Int)) = true := by rw [hyw]; simp
              subst hyw
              rw [if_pos rfl, if_neg (by simp)] at hcs
              have HF2 : Hid (cloneB x0 k false (b.take (j + 1)) = cloneB x0 k false (b.take j) ++ [(x0 : Int), (k : Int)]) := Lib.hid hcs
              clear hcs
              go_wp2_with (at_builtin; (first
                | (refine append_one erI rfl rfl hown1 rfl rfl rfl (by simp [Value.oneCell']) (by omega) (by omega) hbq1.size ?_; intro v2 w2 hown2 _ hb2 hne2; have hbq2 := hbq1.trans hb2; have hcellk2 := cell_keep hbq2 HCE.out; have hcy2 := cell_keep hbq2 HCY.out)
                | (refine append_one erI rfl rfl hown rfl rfl rfl (by simp [Value.oneCell']) (by omega) (by omega) hbq.size ?_; intro v1 w1 hown1 _ hb1 hne1; have hbq1 := hbq.trans hb1; have hcellk1 := cell_keep hbq1 HCE.out; have hcy1 := cell_keep (show Below wo.heap.size wo w1 from hbq1) HCY.out)))
              have HO : Hid (w2.ownsRow wo.heap.size 3 1 v2 (m + 1 + 1) ((cloneB x0 k false (b.take (j + 1))).map (Value.int .i64))) := Lib.hid (by rw [HF2.out, List.map_append]; simpa [List.append_assoc] using hown2)
              go_roundw
              case rel => exact ⟨j + 1, m + 1 + 1, by omega, by omega, by go_num, HO.out, hbq2⟩
              case measure => simp [intOf] <;> omega
            · have q1 : (y == (x0 : Int)) = false := by rw [beq_eq_false_iff_ne]; exact hyw
              rw [if_neg hyw] at hcs
              have HF2 : Hid (cloneB x0 k false (b.take (j + 1)) = cloneB x0 k false (b.take j) ++ [y]) := Lib.hid hcs
              clear hcs
              go_wp2_with (at_builtin; go_must (refine append_one erI rfl rfl hown rfl rfl rfl (by simp [Value.oneCell']) (by omega) (by omega) hbq.size ?_); intro v1 w1 hown1 _ hb1 hne1; have hbq1 := hbq.trans hb1; have hcellk1 := cell_keep hbq1 HCE.out; have hcy1 := cell_keep hbq1 HCY.out)
              have HO : Hid (w1.ownsRow wo.heap.size 3 1 v1 (m + 1) ((cloneB x0 k false (b.take (j + 1))).map (Value.int .i64))) := Lib.hid (by rw [HF2.out, List.map_append]; exact hown1)
              go_roundw
              case rel => exact ⟨j + 1, m + 1, by omega, by omega, by go_num, HO.out, hbq1⟩
              case measure => simp [intOf] <;> omega
        · obtain rfl : ln = j := by omega
          have hml := hown.1
          rw [List.length_map, Nat.mul_one] at hml
          obtain ⟨pp, cp, rfl, _, _⟩ := own_shp hown
          rw [List.take_of_length_le (by rw [HLN.out]; exact Nat.le_refl _)] at hown hml
          have HI : Hid (IntsAt wr (.slice pp m cp) (cloneB x0 k f b)) := Lib.hid (ints_owned hown)
          have HFR := Lib.hid (Fresh.owned hown)
          have HM : Hid (Made wo.heap.size (fun w => rowI w [.slice pp m cp] (cloneB x0 k f b)) wr) := Lib.hid ((RowAt.made HI.out HFR.out).imp fun _ g => ⟨_, rfl, g⟩)
          have HE := Lib.hid (Lst.fresh_elt hLr.out HM.out hwo3)
          have hL2 := Lib.hid (hLr.out.keep hbq)
          have hb3q := bel2' hbel hbq
          clear hown hml
          go_wp2_with (at_builtin; go_must (refine append_lst erRI rfl rfl hL2.out rfl rfl rfl (by simp [Value.oneCell']) (by omega) (by omega) hb3q.size HE.out ?_); intro v' w4 hL4 hb4 hg4 hv4; have HL4 := Lib.hid hL4; clear hL4)
          go_roundw
          case rel => exact ⟨i + 1, _, by omega, by go_num, hb3q.trans hb4, by rw [HSTEP.out]; exact HL4⟩
          case measure => simp [intOf] <;> omega
    · obtain rfl : i = bl := by omega
      have hltz : ¬ (i : Int) < (i : Int) := by omega
      have hgr : GridAt wo u10 (cloTo x0 k M B i) := hL.out.slice
      have hg3 := HG3.out.keep hbel
      go_wp2_with (first
        | (go_at_call 36; ((with_reducible refine (MK1.out _ _ hg3).mono ?_); rintro _ w5 ⟨v5, rfl, h5, hb5⟩; have hgr5 := hgr.keep hb5; have b5 := bel2' hbel hb5))
        | (go_at_call 36; ((with_reducible refine (MK2.out _ _ hgr5).mono ?_); rintro _ w6 ⟨v6, rfl, h6, hb6⟩; have h56 := h5.keep hb6; have b6 := bel2' b5 hb6))
        | (go_at_call 14; ((with_reducible refine (PO1.out _ _ h56).mono ?_); rintro _ w7 ⟨v7, rfl, h7, _, hb7⟩; have h67 := h6.keep hb7; have b7 := bel2' b6 hb7))
        | (go_at_call 14; ((with_reducible refine (PO2.out _ _ h67).mono ?_); rintro _ w8 ⟨v8, rfl, h8, _, hb8⟩; have h78 := h7.keep hb8; have b8 := bel2' b7 hb8; obtain ⟨p8, c8, rfl⟩ := h8.shape)))
      rw [HNL.out] at h8 ⊢
      have H8 := Lib.hid h8
      have H78 := Lib.hid h78
      clear h8 h78 h67 h56 h5 h6 h7 hgr hgr5 hg3
      go_loop [21] (fun jv => ∃ j : Nat, j ≤ nl ∧ jv = .int .i64 j) (fun jv => nl - (intOf jv).toNat)
      case atStart => exact ⟨0, by omega, rfl⟩
      case round =>
        obtain ⟨j, hj, rfl⟩ := hrel
        by_cases hjl : j < nl
        · have hjz : (j : Int) < (nl : Int) := by omega
          obtain ⟨b9, o9, e9, _, _, hc9⟩ := H8.out.cellAt j (by rw [HNL.out]; exact hjl)
          subst e9
          have hlw := HLW.out _ (mem_getD (k := j) (by rw [HNL.out]; exact hjl) rfl)
          obtain ⟨y, hy⟩ : ∃ y, now.getD j 0 = y := ⟨_, rfl⟩
          rw [hy] at hc9 hlw
          obtain ⟨a, ha⟩ : ∃ a, hasB old y = a := ⟨_, rfl⟩
          have HA : Hid (Calls Try.prog 21 #[v7, .int .i64 y] w8 fun e w' => e = .returned (.bool a) ∧ w8 = w') := Lib.hid (by rw [← ha]; exact has_c H78.out y)
          by_cases hyk : y = k
          · have q1 : (y == (k : Int)) = true := by rw [hyk]; simp
            have HW : Hid (Calls Try.prog 21 #[v7, .int .i64 x0] w8 fun e w' => e = .returned (.bool true) ∧ w8 = w') := Lib.hid (by have := has_c H78.out (x0 : Int); rwa [hlw.2 hyk] at this)
            clear hlw ha hy hyk
            cases a
            · go_wp2_with (first
                | (go_at_call 21; ((with_reducible refine HA.out.mono ?_); rintro _ _ ⟨rfl, rfl⟩))
                | (go_at_call 21; ((with_reducible refine HW.out.mono ?_); rintro _ _ ⟨rfl, rfl⟩)))
              go_round
              case rel => exact ⟨j + 1, by omega, by go_num⟩
              case measure => simp [intOf] <;> omega
            · go_wp2_with (go_at_call 21; ((with_reducible refine HA.out.mono ?_); rintro _ _ ⟨rfl, rfl⟩))
              go_round
              case rel => exact ⟨j + 1, by omega, by go_num⟩
              case measure => simp [intOf] <;> omega
          · have hat : a = true := by rw [← ha]; exact hlw.1 hyk
            subst hat
            clear hlw ha hy hyk
            go_wp2_with (go_at_call 21; ((with_reducible refine HA.out.mono ?_); rintro _ _ ⟨rfl, rfl⟩))
            go_round
            case rel => exact ⟨j + 1, by omega, by go_num⟩
            case measure => simp [intOf] <;> omega
        · obtain rfl : nl = j := by omega
          have hwz : (0 : Int) < (nl : Int) := by omega
          go_wp2_with (go_at_call 12; ((with_reducible refine (awake26 _).mono ?_); rintro _ w10 ⟨rfl, hb10⟩))
          go_ret
          exact ⟨rfl, bel2' (bel2' hb3 b8) hb10⟩

end Go.Proofs.Ytbnhgmikegdppaa

/- A pile and a row of flags that come in are opened. -/
namespace Go.Proofs.Ytbnhgmikegdppaa
open Go.ChangeShapes Go.WideShapes Go.ChangeAt Go.RowKit Go.Proofs.Kit Go.Proofs.Nums

set_option maxRecDepth 100000 in
/-- A slice opened, its elements by a reading of their own. -/
theorem slice_open {H : Type} {enc : TypeId × Value → H} {β : Type} [Inhabited β] {R : World → List Value → β → Prop} {k : Nat} {t e : TypeId} {v : Value} {W : World} {n : Nat} {y : DataW H × List MemPlace} (ht : Try.prog.underlying t = some (.slice e)) (hk : Try.prog.cellsOf e = k)
    (hm : DataW.trod enc Try.prog W 0 (fun _ => true) true n t [v] = some y) (hR : ∀ (cs : List Value) (n : Nat) (y : DataW H × List MemPlace), DataW.trod enc Try.prog W 0 (fun _ => true) true n e cs = some y → cs.length = k → ∃ x, R W cs x) : ∃ l, SliceOf R k W v l := by
  rcases Go.Deep.open_slice ht hm with ⟨hcs, _⟩ | ⟨a, len, cap, m, n', D, Pl, hcs, _, hl, hmx, hmm, _, hx⟩
  · obtain rfl : v = .slice none 0 0 := List.head_eq_of_cons_eq hcs
    exact ⟨[], SliceOf.nil W⟩
  · obtain rfl : v = .slice (some a) len cap := List.head_eq_of_cons_eq hcs
    simp only [if_true] at hmm
    subst hmm
    rw [hk] at hx
    have hx2 : ∀ i, i < m → ∃ z : List Value × β, W.cells? 0 (a.add (i * k)) k = some z.1 ∧ z.1.length = k ∧ R W z.1 z.2 := fun i hi => by
      obtain ⟨cs', h1, h2⟩ := hx i hi
      obtain ⟨_, hlen, _⟩ := World.cells?_some h1
      obtain ⟨x, hx⟩ := hR cs' _ _ h2 hlen
      exact ⟨(cs', x), h1, hlen, hx⟩
    obtain ⟨Z, hZ⟩ := Go.Deep.choose_lt hx2
    refine ⟨(List.range len).map fun i => (Z i).2, (List.range len).map (fun i => (Z i).1), some a, m, by simp, by simpa using hl, by unfold maxLen at hmx; omega, (fun h => by cases h), by simp, (fun c hc => ?_), (fun q hq i c j u hi hj => ?_), (fun i c y hi hy => ?_)⟩
    · obtain ⟨i, hi, rfl⟩ := List.mem_map.1 hc
      exact (hZ i (by have := List.mem_range.1 hi; omega)).2.1
    · obtain rfl := Option.some.inj hq
      rw [List.getElem?_map] at hi
      by_cases hil : i < len
      · rw [List.getElem?_range hil] at hi
        simp only [Option.map_some, Option.some.injEq] at hi
        subst hi
        obtain ⟨h1, h2, h3⟩ := hZ i (by omega)
        have h4 := (World.cells?_some h1).2.2 j (by rw [← h2]; exact (List.getElem?_eq_some_iff.1 hj).1)
        rw [Go.Deep.add_add] at h4
        rw [h4]
        exact hj
      · rw [List.getElem?_eq_none (by simp; omega)] at hi
        simp at hi
    · rw [List.getElem?_map] at hi hy
      by_cases hil : i < len
      · rw [List.getElem?_range hil] at hi hy
        simp only [Option.map_some, Option.some.injEq] at hi hy
        subst hi
        subst hy
        exact (hZ i (by omega)).2.2
      · rw [List.getElem?_eq_none (by simp; omega)] at hi
        simp at hi

section
variable {H : Type} {enc : TypeId × Value → H} {W : World}
theorem int_cell {v : Value} {n : Nat} {y : DataW H × List MemPlace} (h : DataW.trod enc Try.prog W 0 (fun _ => true) true n 3 [v] = some y) : ∃ l : Int, v = .int .i64 l := by
  obtain ⟨a, ha, _⟩ := DataW.trod_int Try.underlying3 h
  exact ⟨a, List.head_eq_of_cons_eq ha⟩
theorem len2 {l : List Value} (h : l.length = 2) : ∃ a b, l = [a, b] := by
  match l, h with
  | [a, b], _ => exact ⟨a, b, rfl⟩
set_option maxRecDepth 100000 in
theorem grp_open {cs : List Value} {n : Nat} {y : DataW H × List MemPlace} (h : DataW.trod enc Try.prog W 0 (fun _ => true) true n 85 cs = some y) (hl : cs.length = 2) : ∃ g : Grp, groupR W cs g := by
  obtain ⟨a, b, rfl⟩ := len2 hl
  obtain ⟨y0, y1, m, _, _, h0, h1⟩ := trod_struct2 Try.underlying85 h
  have h0 : DataW.trod enc Try.prog W 0 (fun _ => true) true m 28 [a] = some y0 := h0
  have h1 : DataW.trod enc Try.prog W 0 (fun _ => true) true m 3 [b] = some y1 := h1
  obtain ⟨l, hi⟩ := ints_cell h0
  obtain ⟨z, rfl⟩ := int_cell h1
  exact ⟨⟨l, z⟩, a, rfl, hi⟩
instance : Inhabited Grp := ⟨g0⟩
set_option maxRecDepth 100000 in
/-- An argument of type []api.Group. -/
theorem pile_open {v : Value} {d : DataW H} {p : List MemPlace} {base : Nat} (hv : Value.okWide Try.prog W .any base 22 v)
    (h : DataW.Trod enc Try.prog W 0 (fun _ => true) true 22 v d p) : ∃ gs, PileAt W v gs := by
  obtain ⟨a, len, cap, rfl⟩ := okWide_slice Try.underlying22 hv
  obtain ⟨m, hm⟩ := h
  exact slice_open (R := groupR) (k := 2) Try.underlying22 (by kernel_rfl) hm (fun cs n y hc hl => grp_open hc hl)
set_option maxRecDepth 100000 in
/-- An argument of type []bool. -/
theorem bools_open {v : Value} {d : DataW H} {p : List MemPlace} {base : Nat} (hv : Value.okWide Try.prog W .any base 46 v)
    (h : DataW.Trod enc Try.prog W 0 (fun _ => true) true 46 v d p) : ∃ l, BoolsAt W v l := by
  obtain ⟨a, len, cap, rfl⟩ := okWide_slice Try.underlying46 hv
  obtain ⟨m, hm⟩ := h
  obtain ⟨l, css, p, cap, e, h1, h2, h3, h4, h5, h6, h7⟩ := slice_open (R := fun _ c (x : Bool) => c = [.bool x]) (k := 1) Try.underlying46 (by kernel_rfl) hm (fun cs n y hc hl => by
    match cs, hl with
    | [v], _ =>
      obtain ⟨b, hb, _⟩ := DataW.trod_bool Try.underlying4 hc
      exact ⟨b, hb⟩)
  refine ⟨l, p, cap, by rw [e, List.length_map], by rw [List.length_map]; exact h1, h2, h3, fun q hq i u hi => ?_⟩
  rw [List.getElem?_map] at hi
  obtain ⟨x, hx, rfl⟩ := Option.map_eq_some_iff.1 hi
  have hil := (List.getElem?_eq_some_iff.1 hx).1
  have hc := List.getElem?_eq_getElem (l := css) (i := i) (by omega)
  have e := h7 i _ x hc hx
  have := h6 q hq i _ 0 (.bool x) hc (by rw [e]; rfl)
  rw [Nat.mul_one, Nat.add_zero] at this
  exact this
end

end Go.Proofs.Ytbnhgmikegdppaa

namespace Go.Proofs.Ytbnhgmikegdppaa.irvClones
open Go.ChangeShapes Go.WideShapes Go.ChangeAt Go.RowKit
open Go.ChangeMaps (open_string shut_string)

theorem own : ownKnob Try.prog.godebug = none := by kernel_rfl
theorem laidOut : laidOutB Try.prog = true := by kernel_rfl

set_option maxRecDepth 100000 in
theorem lifted (os : Os) (started : os.Started) (H : Type) (enc : TypeId × Value → H) :
    ReturnsInHanded {} Try.checked os 7 .any (Rows.irvClonesSpec.pre6 enc Try.prog Try.f7 Rows.irvClonesRow.domain false) (Rows.irvClonesSpec.post enc Try.prog Try.f7 false true false false) := by
  refine returnsInHanded_of_change (C := Try.checked) own started (by kernel_rfl) Try.func7
    (ChangeSpec.witness6 (enc := enc) (C := Try.checked) false ⟨#[], #[.int .i64 0, .slice none 0 0, .int .i64 0, .slice none 0 0], []⟩ 8 (by kernel_rfl) (by kernel_rfl) (by kernel_rfl) (by kernel_rfl)) ?_
  intro W base args ds gs before hval0 hW hcnd _
  have hval := hval0
  have hW' := hW
  obtain ⟨p, q, hA0, hV, rfl, hfz, hnd⟩ := hW
  have hA : DataW.TrodAll enc Try.prog W 0 (fun _ => true) true Try.f7.params.toList args.toList ds p := hA0
  rw [Try.params7] at hA hval
  obtain ⟨v0, vs0, d0, ds0, p0, q0, hargs, rfl, rfl, h0, r0⟩ := trodAll_cons hA
  obtain ⟨v1, vs1, d1, ds1, p1, q1, rfl, rfl, rfl, h1, r1⟩ := trodAll_cons r0
  obtain ⟨v2, vs2, d2, ds2, p2, q2, rfl, rfl, rfl, h2, r2⟩ := trodAll_cons r1
  obtain ⟨v3, vs3, d3, ds3, p3, q3, rfl, rfl, rfl, h3, r3⟩ := trodAll_cons r2
  obtain ⟨rfl, rfl, rfl⟩ := trodAll_nil r3
  obtain rfl : args = #[v0, v1, v2, v3] := by cases args; simp_all
  obtain ⟨rfl, rfl⟩ := trodVars_none hV
  obtain ⟨a0, rfl, rfl, rfl, w0⟩ := open_int Try.underlying3 (hval 0 3 v0 rfl rfl) h0
  have lt1 : ∀ x ∈ p1, x.block < W.heap.size := by obtain ⟨m, hm⟩ := h1; exact DataW.trod_lt m _ _ _ hm
  obtain ⟨l1, n1⟩ := grid_open (hval 1 23 v1 rfl rfl) h1
  obtain ⟨a2, rfl, rfl, rfl, w2⟩ := open_int Try.underlying3 (hval 2 3 v2 rfl rfl) h2
  have lt3 : ∀ x ∈ p3, x.block < W.heap.size := by obtain ⟨m, hm⟩ := h3; exact DataW.trod_lt m _ _ _ hm
  obtain ⟨l3, n3⟩ := bools_open (hval 3 46 v3 rfl rfl) h3
  clear hA0 hval0
  refine (walk_IrvClones a0 n1 a2 n3).mono fun e W' ⟨he, bel⟩ => ?_
  subst he
  exact ⟨_, rfl, _, _, _, [], _, [], hW', trodAll_mk1 (shut_bool Try.underlying4 _), (trodAll_cons_mk (shut_int Try.underlying3 w0) (trodAll_cons_mk (Below.trod laidOut (by kernel_rfl) (of_decide_eq_true (by kernel_rfl)) h1 bel lt1) (trodAll_cons_mk (shut_int Try.underlying3 w2) (trodAll_cons_mk (Below.trod laidOut (by kernel_rfl) (of_decide_eq_true (by kernel_rfl)) h3 bel lt3) trodAll_mk0)))), rfl, bel.frame _, fun h => by cases h⟩

theorem over : Rows.irvClonesRow.holds Try.pinned (OpenSpec.ofChange Rows.irvClonesSpec) :=
  OpenClaim.holds_of_wide 7 Try.f7 rfl rfl rfl rfl rfl rfl rfl ⟨rfl, rfl, rfl, rfl, rfl⟩ rfl rfl rfl rfl rfl (by kernel_rfl) Try.func7 (by kernel_rfl)
    (of_decide_eq_true (by kernel_rfl)) (by unfold Func.isWrapper; first | (rw [if_pos (by decide +kernel)]; kernel_rfl) | (rw [if_neg (by decide +kernel)]; exact ⟨rfl, rfl⟩))
    (fun os started H enc _ => lifted os started H enc)

end Go.Proofs.Ytbnhgmikegdppaa.irvClones
namespace Go.Proofs.Ytbnhgmikegdppaa
/-- IrvClones: the given statement. -/
theorem irvClones_proved : Rows.IrvClonesSaid := irvClones.over
#print axioms irvClones_proved
end Go.Proofs.Ytbnhgmikegdppaa
