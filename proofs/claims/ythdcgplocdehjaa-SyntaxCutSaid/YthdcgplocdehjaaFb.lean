/- Parse, both; Awake. -/
import Derived.Test.YthdcgplocdehjaaQi
import Derived.Test.YthdcgplocdehjaaFa
import Derived.Test.YthdcgplocdehjaaZJ
namespace Go.Proofs.Ythdcgplocdehjaa
open Go.RowKit Go.Proofs.Kit

abbrev lnN : Nat → Int := fun n => (n : Int)
/-- Parse, in plain lists: the definition, or the line of the fault. -/
def parseL (l : List UInt8) : Except Nat Src := match lexL (l.length + 1) 1 l with
  | .error n => .error n
  | .ok T => if (srcS T).f = 0 then .ok (srcT T) else .error (srcS T).f
def srcOf (r : Except Nat Src) : Src := match r with
  | .ok s => s
  | .error _ => ([], [])
def errOf (r : Except Nat Src) : Int := match r with
  | .ok _ => 0
  | .error _ => 1
def lineOf (r : Except Nat Src) : Nat := match r with
  | .ok _ => 0
  | .error n => n
/-- What a parse hands back. -/
def PV (B : Nat) (r : Except Nat Src) (e : Ending) (w' : World) : Prop := ∃ S p m c, strV (srcOf r).1 = .string S ∧ e = .returned (.tuple #[.agg #[.string S, .slice p m c], .agg #[.int .i64 (errOf r), .int .i64 (lineOf r)]]) ∧ Made B (fun W => SliceOf (blkRA lnN) 4 W (.slice p m c) (srcOf r).2) w'
theorem PV.bad (B n : Nat) (w' : World) : PV B (.error n) (.returned (.tuple #[srcNo, .agg #[.int .i64 1, .int .i64 n]])) w' := ⟨_, none, 0, 0, rfl, rfl, Made.of_true fun w => SliceOf.nil w⟩
theorem parse_v (s : ByteArray) (w : World) (hs : s.size ≤ 20000) :
    Calls Try.prog 9 #[.string s] w fun e w' => PV w.heap.size (parseL s.data.toList) e w' ∧ Below w.heap.size w w' :=
  (parse_c s w hs).mono (by
    rintro e w' ⟨h, hb⟩
    refine ⟨?_, hb⟩
    unfold parseL
    rw [← Lib.size_eq]
    cases hx : lexL (s.size + 1) 1 s.data.toList with
    | error n =>
      rw [hx] at h
      have h2 : e = .returned (.tuple #[srcNo, .agg #[.int .i64 1, .int .i64 n]]) := h
      rw [h2]
      exact PV.bad _ _ _
    | ok T =>
      rw [hx] at h
      have h2 : if (srcS T).f = 0 then ∃ p m c, e = .returned (.tuple #[.agg #[strV (srcT T).1, .slice p m c], .agg #[.int .i64 0, .int .i64 0]]) ∧ Made w.heap.size (fun W => SliceOf blkR 4 W (.slice p m c) (srcT T).2) w' else e = .returned (.tuple #[srcNo, .agg #[.int .i64 1, .int .i64 (srcS T).f]]) := h
      simp only []
      by_cases hf : (srcS T).f = 0
      · rw [if_pos hf] at h2 ⊢
        obtain ⟨p, m, c, rfl, hm⟩ := h2
        exact ⟨_, p, m, c, rfl, rfl, hm⟩
      · rw [if_neg hf] at h2 ⊢
        rw [h2]
        exact PV.bad _ _ _)
theorem rparse_v (s : ByteArray) (w : World) (hs : s.size ≤ 20000) :
    Calls Try.prog 10 #[.string s] w fun e w' => PV w.heap.size (parseL s.data.toList) e w' ∧ Below w.heap.size w w' :=
  (rparse_c s w hs).mono (by
    rintro e w' ⟨h, hb⟩
    refine ⟨?_, hb⟩
    have hsl : s.data.toList.length ≤ 20000 := by rw [← Lib.size_eq]; exact hs
    unfold parseL
    rw [← Lib.size_eq]
    cases hx : lexL (s.size + 1) 1 s.data.toList with
    | error n =>
      rw [hx] at h
      have h2 : e = .returned (.tuple #[srcNo, .agg #[.int .i64 1, .int .i64 n]]) := h
      rw [h2]
      exact PV.bad _ _ _
    | ok T =>
      have hT : TOk T := (lexL_ok _ _ _ _ hx).tok hsl
      obtain ⟨k1, k2⟩ := parse_same hT
      rw [hx] at h
      have h2 : if (rsrcS T).f = 0 then ∃ p m c, e = .returned (.tuple #[.agg #[strV (rsrcT T).1, .slice p m c], .agg #[.int .i64 0, .int .i64 0]]) ∧ Made w.heap.size (fun W => SliceOf blkR 4 W (.slice p m c) (rsrcT T).2) w' else e = .returned (.tuple #[srcNo, .agg #[.int .i64 1, .int .i64 (rsrcS T).f]]) := h
      rw [k1] at h2
      simp only []
      by_cases hf : (srcS T).f = 0
      · rw [if_pos hf] at h2 ⊢
        rw [k2 hf] at h2
        obtain ⟨p, m, c, rfl, hm⟩ := h2
        exact ⟨_, p, m, c, rfl, rfl, hm⟩
      · rw [if_neg hf] at h2 ⊢
        rw [h2]
        exact PV.bad _ _ _)

def awIn : List UInt8 := [101, 108, 101, 99, 116, 105, 111, 110, 32, 34, 69, 34, 32, 123, 32, 115, 99, 97, 110, 32, 123, 32, 100, 111, 116, 115, 32, 50, 59, 32, 125, 32, 125]
def awOut : List UInt8 := [101, 108, 101, 99, 116, 105, 111, 110, 32, 34, 69, 34, 32, 123, 10, 32, 32, 115, 99, 97, 110, 32, 123, 10, 32, 32, 32, 32, 100, 111, 116, 115, 32, 50, 59, 10, 32, 32, 125, 10, 125, 10]
def awSrc : Src := ([69], [([115, 99, 97, 110], [], [([100, 111, 116, 115], [[50]], 1)], 1)])
theorem aw_parse : parseL awIn = .ok awSrc := by kernel_rfl
theorem aw_print : printL awSrc = (awOut, true) := by kernel_rfl
theorem aw_small : SmS awSrc := by
  refine ⟨by decide, by decide, fun b hb => ?_⟩
  simp only [awSrc, List.mem_singleton] at hb
  subst hb
  refine ⟨by decide, by decide, by decide, fun f hf => ?_⟩
  simp only [List.mem_singleton] at hf
  subst hf
  refine ⟨by decide, by decide, fun v hv => ?_⟩
  simp only [List.mem_singleton] at hv
  subst hv
  decide

set_option maxRecDepth 100000 in
set_option maxHeartbeats 4000000 in
theorem awake_c (w : World) : Calls Try.prog 11 #[] w fun e w' => e = .returned (.bool true) ∧ Below w.heap.size w w' := by
  have PA := parse_v ⟨awIn.toArray⟩ w (by decide)
  rw [show (⟨awIn.toArray⟩ : ByteArray).data.toList = awIn from rfl, aw_parse] at PA
  have PA : Calls Try.prog 9 #[.string ⟨awIn.toArray⟩] w fun e w' => (∃ p m c, e = .returned (.tuple #[.agg #[.string ⟨#[69]⟩, .slice p m c], .agg #[.int .i64 0, .int .i64 0]]) ∧ Made w.heap.size (fun W => SliceOf (blkRA lnN) 4 W (.slice p m c) awSrc.2) w') ∧ Below w.heap.size w w' := PA.mono (by
    rintro e w' ⟨⟨S, p, m, c, hS, rfl, hm⟩, hb⟩
    obtain rfl : ⟨#[69]⟩ = S := by injection hS
    exact ⟨⟨p, m, c, rfl, hm⟩, hb⟩)
  have PP := Lib.hid (fun (u : Value) (w : World) (h : SliceOf (blkRA lnN) 4 w u awSrc.2) => print_c (ln := lnN) aw_small w h)
  rw [aw_print, show strV awSrc.1 = .string ⟨#[69]⟩ from rfl] at PP
  have PA := Lib.hid PA
  unfold awIn at PA
  unfold awOut at PP
  go_enter Try.func11, Try.ntmps11
  go_wp2_with (first
    | (go_at_call 9; ((with_reducible refine (PA.out).mono ?_); rintro e w1 ⟨⟨p, m, c, rfl, hm⟩, hb1⟩; have R1 := Lib.hid ((Bk.new w1 #[.string ⟨#[69]⟩, .slice p m c] 24).keep ((Below.refl _ _).alloc (Nat.le_refl _) (.cells #[.int .i64 0, .int .i64 0] 27))); have R2 : Hid (Bk (w1.heap.size + 1) #[.int .i64 0, .int .i64 0] ((w1.alloc (.cells #[.string ⟨#[69]⟩, .slice p m c] 24)).alloc (.cells #[.int .i64 0, .int .i64 0] 27))) := Lib.hid (Bk.newAt _ _ _ (by simp)); have hbA : Below w1.heap.size w1 ((w1.alloc (.cells #[.string ⟨#[69]⟩, .slice p m c] 24)).alloc (.cells #[.int .i64 0, .int .i64 0] 27)) := ((Below.refl _ _).alloc (Nat.le_refl _) _).alloc (by simp) _; have HM := Lib.hid (hm.keep hbA).now; obtain ⟨a0, a1⟩ := R1.out.two; obtain ⟨b0, b1⟩ := R2.out.two))
    | (go_at_call 14; ((with_reducible refine (PP.out _ _ HM.out).mono ?_); rintro e w2 ⟨rfl, hb2⟩; have b2 := cell_keep hb2 b0; have b3 := cell_keep hb2 b1)))
  go_ret
  exact ⟨rfl, bel3 (bel3 hb1 hbA) hb2⟩

end Go.Proofs.Ythdcgplocdehjaa
