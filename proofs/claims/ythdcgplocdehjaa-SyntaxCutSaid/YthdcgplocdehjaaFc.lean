/- The statement SyntaxParse: its walk. -/
import Derived.Test.YthdcgplocdehjaaFb
import Derived.Test.YthdcgplocdehjaaEb
namespace Go.Proofs.Ythdcgplocdehjaa
open Go.RowKit Go.Proofs.Kit

section
variable {T : List Tok} {M : Nat}
theorem takeT_le (h : ∀ i, (tk T i).2.1.length ≤ M) (s : St) (kind : Int) (text : List UInt8) : (takeT T s kind text).2.1.length ≤ M := by
  unfold takeT
  split
  · exact h _
  · exact Nat.zero_le _
theorem valT_le (h : ∀ i, (tk T i).2.1.length ≤ M) (s : St) : (valT T s).length ≤ 2 * M + 1 := by
  unfold valT
  split
  · have := h s.i; omega
  · split
    · have := h s.i; omega
    · split
      · have h1 := takeT_le h s 2 []
        have h2 := takeT_le h (takeS T (needS T s 2 []) 4 [47]) 2 []
        rw [List.length_append, List.length_cons]; omega
      · have := takeT_le h s 2 []; omega
theorem comT_le (h : ∀ i, (tk T i).2.1.length ≤ M) : ∀ (f : Nat) (s : St), (comT T f s).length ≤ f ∧ ∀ v ∈ comT T f s, v.length ≤ 2 * M + 1 := by
  intro f
  induction f with
  | zero => intro s; exact ⟨Nat.le_refl _, fun v hv => by simp [comT] at hv⟩
  | succ f ih =>
    intro s
    unfold comT
    split
    · obtain ⟨h1, h2⟩ := ih (valS T (takeS T s 4 [44]))
      refine ⟨by rw [List.length_cons]; omega, fun v hv => ?_⟩
      rcases List.mem_cons.1 hv with rfl | hv
      · exact valT_le h _
      · exact h2 v hv
    · exact ⟨Nat.zero_le _, fun v hv => by simp at hv⟩
theorem fldT_sm (h : ∀ i, (tk T i).2.1.length ≤ M) (hM : 2 * M + 1 ≤ 1000) (hT : T.length ≤ 900) (s : St) : SmF (fldT T s) := by
  obtain ⟨h1, h2⟩ := comT_le h T.length (valS T (needS T s 1 []))
  refine ⟨?_, ?_, fun v hv => ?_⟩
  · have := takeT_le h s 1 []
    show (takeT T s 1 []).2.1.length ≤ 1000
    omega
  · show (valT T (needS T s 1 []) :: comT T T.length (valS T (needS T s 1 []))).length ≤ 1000
    rw [List.length_cons]; omega
  · rcases List.mem_cons.1 hv with rfl | hv
    · have := valT_le h (needS T s 1 []); omega
    · have := h2 v hv; omega
theorem fsT_sm (h : ∀ i, (tk T i).2.1.length ≤ M) (hM : 2 * M + 1 ≤ 1000) (hT : T.length ≤ 900) : ∀ (f : Nat) (s : St), (fsT T f s).length ≤ f ∧ ∀ v ∈ fsT T f s, SmF v := by
  intro f
  induction f with
  | zero => intro s; exact ⟨Nat.le_refl _, fun v hv => by simp [fsT] at hv⟩
  | succ f ih =>
    intro s
    unfold fsT
    split
    · obtain ⟨h1, h2⟩ := ih (fldS T s)
      refine ⟨by rw [List.length_cons]; omega, fun v hv => ?_⟩
      rcases List.mem_cons.1 hv with rfl | hv
      · exact fldT_sm h hM hT _
      · exact h2 v hv
    · exact ⟨Nat.zero_le _, fun v hv => by simp at hv⟩
theorem blkT_sm (h : ∀ i, (tk T i).2.1.length ≤ M) (hM : 2 * M + 1 ≤ 1000) (hT : T.length ≤ 900) (s : St) : SmB (blkT T s) := by
  obtain ⟨h1, h2⟩ := fsT_sm h hM hT T.length (blk3 T s)
  refine ⟨?_, ?_, ?_, h2⟩
  · have := takeT_le h s 1 []
    show (takeT T s 1 []).2.1.length ≤ 1000
    omega
  · have := takeT_le h (needS T s 1 []) 1 []
    show (takeT T (needS T s 1 []) 1 []).2.1.length ≤ 1000
    omega
  · show (fsT T T.length (blk3 T s)).length ≤ 1000
    omega
theorem bsT_sm (h : ∀ i, (tk T i).2.1.length ≤ M) (hM : 2 * M + 1 ≤ 1000) (hT : T.length ≤ 900) : ∀ (f : Nat) (s : St), (bsT T f s).length ≤ f ∧ ∀ v ∈ bsT T f s, SmB v := by
  intro f
  induction f with
  | zero => intro s; exact ⟨Nat.le_refl _, fun v hv => by simp [bsT] at hv⟩
  | succ f ih =>
    intro s
    unfold bsT
    split
    · obtain ⟨h1, h2⟩ := ih (blkS T s)
      refine ⟨by rw [List.length_cons]; omega, fun v hv => ?_⟩
      rcases List.mem_cons.1 hv with rfl | hv
      · exact blkT_sm h hM hT _
      · exact h2 v hv
    · exact ⟨Nat.zero_le _, fun v hv => by simp at hv⟩
theorem srcT_sm (h : ∀ i, (tk T i).2.1.length ≤ M) (hM : 2 * M + 1 ≤ 1000) (hT : T.length ≤ 900) : SmS (srcT T) := by
  obtain ⟨h1, h2⟩ := bsT_sm h hM hT T.length (srcC T)
  refine ⟨?_, ?_, h2⟩
  · have := takeT_le h (srcA T) 3 []
    show (takeT T (srcA T) 3 []).2.1.length ≤ 1000
    omega
  · show (bsT T T.length (srcC T)).length ≤ 1000
    omega
end
theorem sm_none : SmS (([], []) : Src) := ⟨by simp, by simp, fun b hb => by simp at hb⟩
/-- What a parse hands back, its title named. -/
theorem PV.open_ {B : Nat} {r : Except Nat Src} {e : Ending} {w' : World} {K : ByteArray} (hK : strV (srcOf r).1 = .string K) (h : PV B r e w') : ∃ p m c, e = .returned (.tuple #[.agg #[.string K, .slice p m c], .agg #[.int .i64 (errOf r), .int .i64 (lineOf r)]]) ∧ Made B (fun W => SliceOf (blkRA lnN) 4 W (.slice p m c) (srcOf r).2) w' := by
  obtain ⟨S, p, m, c, hS, rfl, hm⟩ := h
  rw [hK] at hS
  injection hS with hS
  subst hS
  exact ⟨p, m, c, rfl, hm⟩
/-- Two boxes behind a parse. -/
theorem boxes (w : World) (x y f g : Value) (T U : TypeId) : Hid (Bk w.heap.size #[x, y] ((w.alloc (.cells #[x, y] T)).alloc (.cells #[f, g] U)) ∧ Bk (w.heap.size + 1) #[f, g] ((w.alloc (.cells #[x, y] T)).alloc (.cells #[f, g] U)) ∧ Below w.heap.size w ((w.alloc (.cells #[x, y] T)).alloc (.cells #[f, g] U))) :=
  Lib.hid ⟨(Bk.new w _ T).keep ((Below.refl _ _).alloc (Nat.le_refl _) _), Bk.newAt _ _ _ (by simp), ((Below.refl w.heap.size w).alloc (Nat.le_refl _) _).alloc (by simp) _⟩
/-- A text of up to 400 bytes holds no great definition. -/
theorem sm_parse {l : List UInt8} (h : l.length ≤ 400) : SmS (srcOf (parseL l)) := by
  unfold parseL
  cases hx : lexL (l.length + 1) 1 l with
  | error n => exact sm_none
  | ok T =>
    have k := lexL_ok _ _ _ _ hx
    simp only []
    by_cases hf : (srcS T).f = 0
    · rw [if_pos hf]
      refine srcT_sm (M := 400) (fun i => ?_) (by omega) (by have := k.num; omega)
      by_cases hi : i < T.length
      · have := k.size i hi; omega
      · rw [show tk T i = tok0 by unfold tk; rw [List.getD_eq_getElem?_getD, List.getElem?_eq_none (by omega)]; rfl]
        exact Nat.zero_le _
    · rw [if_neg hf]
      exact sm_none

set_option maxRecDepth 100000 in
set_option maxHeartbeats 4000000 in
theorem walk_SyntaxParse (a : ByteArray) (_ha : a.size ≤ maxLen) {w : World} :
    Calls Try.prog 3 #[.string a] w fun e w' => e = .returned (.bool true) ∧ Below w.heap.size w w' := by
  obtain ⟨S, hS⟩ : ∃ S, a.extract 0 (min (a.size : Int) 400).toNat = S := ⟨_, rfl⟩
  have hs : S.size ≤ 400 := by rw [← hS]; simp [ByteArray.size_extract]; omega
  have HS := Lib.hid hS
  have q1 : (0 : Int) ≤ min (a.size : Int) 400 := by omega
  have q2 : min (a.size : Int) 400 ≤ (a.size : Int) := by omega
  obtain ⟨r, hr⟩ : ∃ r, parseL S.data.toList = r := ⟨_, rfl⟩
  have hsm : SmS (srcOf r) := by rw [← hr]; exact sm_parse (by rw [← Lib.size_eq]; exact hs)
  have AW := Lib.hid awake_c
  have EQ := Lib.hid (fun u v w hu hv => eq_c (la := lnN) (lb := lnN) (SameS.refl true (srcOf r)) (u := u) (v := v) w hsm hu hv)
  obtain ⟨K, hK⟩ : ∃ K, strV (srcOf r).1 = .string K := ⟨_, rfl⟩
  rw [hK] at EQ
  have PA := Lib.hid (fun w => (parse_v S w (by omega)).mono fun e w' h => (show (∃ p m c, e = .returned (.tuple #[.agg #[.string K, .slice p m c], .agg #[.int .i64 (errOf r), .int .i64 (lineOf r)]]) ∧ Made w.heap.size (fun W => SliceOf (blkRA lnN) 4 W (.slice p m c) (srcOf r).2) w') ∧ Below w.heap.size w w' from ⟨PV.open_ hK (by have := h.1; rw [hr] at this; exact this), h.2⟩))
  have PB := Lib.hid (fun w => (rparse_v S w (by omega)).mono fun e w' h => (show (∃ p m c, e = .returned (.tuple #[.agg #[.string K, .slice p m c], .agg #[.int .i64 (errOf r), .int .i64 (lineOf r)]]) ∧ Made w.heap.size (fun W => SliceOf (blkRA lnN) 4 W (.slice p m c) (srcOf r).2) w') ∧ Below w.heap.size w w' from ⟨PV.open_ hK (by have := h.1; rw [hr] at this; exact this), h.2⟩))
  clear hS hr hsm hK
  go_enter Try.func3, Try.ntmps3
  go_wp2_with (first
    | (go_at_call 9; (rw [HS.out]); ((with_reducible refine (PA.out _).mono ?_); rintro e w1 ⟨⟨p, m, c, rfl, hm⟩, hb1⟩; obtain ⟨R1, R2, hbA⟩ := (boxes w1 (.string K) (.slice p m c) (.int .i64 (errOf r)) (.int .i64 (lineOf r)) 24 27).out; have R1 := Lib.hid R1; have R2 := Lib.hid R2; have HM := Lib.hid (hm.keep hbA).now; have hbw := bel3 hb1 hbA; clear hm hb1 hbA))
    | (go_at_call 10; ((with_reducible refine (PB.out _).mono ?_); rintro e w2 ⟨⟨p2, m2, c2, rfl, hm2⟩, hb2⟩; obtain ⟨R3, R4, hbB⟩ := (boxes w2 (.string K) (.slice p2 m2 c2) (.int .i64 (errOf r)) (.int .i64 (lineOf r)) 24 27).out; have R3 := Lib.hid R3; have R4 := Lib.hid R4; have HM2 := Lib.hid (hm2.keep hbB).now; have hb3 := bel3 hb2 hbB; have hbw2 := bel3 hbw hb3; have R1b := Lib.hid (R1.out.keep hb3); have R2b := Lib.hid (R2.out.keep hb3); have HMb := Lib.hid (HM.out.keep hb3 fun c x => blkRA_keep hb3); clear hm2 hb2 hbB))
    | (go_at_call 11; ((with_reducible refine (AW.out _).mono ?_); rintro e w3 ⟨rfl, hb4⟩; have hbw3 := bel3 hbw2 hb4; obtain ⟨a0, a1⟩ := (R1b.out.keep hb4).two; obtain ⟨b0, b1⟩ := (R2b.out.keep hb4).two; obtain ⟨c0, c1⟩ := (R3.out.keep hb4).two; obtain ⟨d0, d1⟩ := (R4.out.keep hb4).two; have HMc := Lib.hid (HMb.out.keep hb4 fun c x => blkRA_keep hb4); have HMd := Lib.hid (HM2.out.keep hb4 fun c x => blkRA_keep hb4)))
    | (go_at_call 12; ((with_reducible refine (EQ.out _ _ _ HMc.out HMd.out).mono ?_); rintro e w5 ⟨rfl, hb5⟩)))
  go_ret
  exact ⟨rfl, bel3 hbw3 hb5⟩

end Go.Proofs.Ythdcgplocdehjaa
