/- The statement SyntaxPrint: its walk. -/
import Derived.Test.YthdcgplocdehjaaCb
import Derived.Test.YthdcgplocdehjaaPg
import Derived.Test.YthdcgplocdehjaaFb
namespace Go.Proofs.Ythdcgplocdehjaa
open Go.RowKit Go.Proofs.Kit

/-- Cut, its titles named. -/
theorem cut_v {α : Type} {ln : α → Int} {s : SrcA α} {K T : ByteArray} (hK : strV s.1 = .string K) (hT : strV (cutS s).1 = .string T) {u : Value} {w : World} (hu : SliceOf (blkRA ln) 4 w u s.2) :
    Calls Try.prog 13 #[.agg #[.string K, u]] w fun e w' => (∃ p m c, e = .returned (.agg #[.string T, .slice p m c]) ∧ Made w.heap.size (fun W => SliceOf (blkRA ln) 4 W (.slice p m c) (cutS s).2) w') ∧ Below w.heap.size w w' := by
  have := cut_c hu
  rw [hK, hT] at this
  exact this.mono (by
    rintro e w' ⟨p, m, c, rfl, hm, hb⟩
    exact ⟨⟨p, m, c, rfl, hm⟩, hb⟩)
/-- What was made behind a box is as it was, when the box is written. -/
theorem made_box {w0 w1 : World} {o : Obj} {R : World → Prop} {x y : Value} (h : Made (w0.alloc o).heap.size R w1) : R ((w1.setCell ⟨w0.heap.size, 0, none⟩ x).setCell ⟨w0.heap.size, 1, none⟩ y) :=
  (On.step h (fun b hb => by
    have h1 : w0.heap.size < b := by have := hb.1; rw [World.size_alloc] at this; omega
    rw [Below.heap_setCell _ ⟨w0.heap.size, 1, none⟩ y b (by show b ≠ w0.heap.size; omega), Below.heap_setCell _ ⟨w0.heap.size, 0, none⟩ x b (by show b ≠ w0.heap.size; omega)])).now

set_option maxRecDepth 100000 in
set_option maxHeartbeats 4000000 in
theorem walk_SyntaxPrint {s : SrcA Int} {u : Value} {w : World} (hu : SliceOf (blkRA id) 4 w u s.2) :
    Calls Try.prog 4 #[.agg #[strV s.1, u]] w fun e w' => e = .returned (.bool true) ∧ Below w.heap.size w w' := by
  obtain ⟨K, hK⟩ : ∃ K, strV s.1 = .string K := ⟨_, rfl⟩
  obtain ⟨T, hT⟩ : ∃ T, strV (cutS s).1 = .string T := ⟨_, rfl⟩
  obtain ⟨pu, cu, rfl, _, _⟩ := hu.shape
  obtain ⟨n, hn⟩ : ∃ n, s.2.length = n := ⟨_, rfl⟩
  rw [hn] at hu ⊢
  have hb0 : Below w.heap.size w (w.alloc (.cells #[.string K, .slice pu n cu] 24)) := (Below.refl _ _).alloc (Nat.le_refl _) _
  have CU := Lib.hid (cut_v hK hT (hu.keep hb0 fun c x => blkRA_keep hb0))
  have N0 := Lib.hid (Bk.new w #[.string K, .slice pu n cu] 24)
  obtain ⟨a0, a1⟩ := N0.out.two
  have hsm := cut_sm s
  have PA := Lib.hid (fun (u : Value) (w : World) (h : SliceOf (blkRA id) 4 w u (cutS s).2) => print_c (ln := id) hsm w h)
  have PB := Lib.hid (fun (u : Value) (w : World) (h : SliceOf (blkRA id) 4 w u (cutS s).2) => rprint_c (ln := id) hsm w h)
  rw [hT] at PA PB
  have AW := Lib.hid awake_c
  obtain ⟨A, hA⟩ : ∃ A : ByteArray, (⟨(printL (cutS s)).1.toArray⟩ : ByteArray) = A := ⟨_, rfl⟩
  obtain ⟨ok, hok⟩ : ∃ b, (printL (cutS s)).2 = b := ⟨_, rfl⟩
  rw [hA, hok] at PA PB
  rw [hK]
  clear hK hT hn hu hA hok hsm
  cases ok
  all_goals
    go_enter Try.func4, Try.ntmps4
    go_wp2_with (first
      | (go_at_call 13; ((with_reducible refine (CU.out).mono ?_); rintro e w1 ⟨⟨p, m, c, rfl, hm⟩, hb1⟩; have N1 := N0.out.keep hb1; obtain ⟨b0, b1⟩ := N1.two; obtain ⟨f0, f1⟩ := N1.free2; have N2 := Lib.hid (show Bk w.heap.size #[.string T, .slice p m c] ((w1.setCell ⟨w.heap.size, 0, none⟩ (.string T)).setCell ⟨w.heap.size, 1, none⟩ (.slice p m c)) from Bk.put (Bk.put N1 (o := 0) (by simp) (.string T)) (o := 1) (by simp) (.slice p m c)); obtain ⟨d0, d1⟩ := N2.out.two; have HM := Lib.hid (made_box (x := .string T) (y := .slice p m c) hm); have hbw := ((bel3 hb0 hb1).setCell (p := ⟨w.heap.size, 0, none⟩) (Nat.le_refl _) (.string T)).setCell (p := ⟨w.heap.size, 1, none⟩) (Nat.le_refl _) (.slice p m c); clear hm N1))
      | (go_at_call 14; ((with_reducible refine (PA.out _ _ HM.out).mono ?_); rintro e w2 ⟨rfl, hb2⟩; obtain ⟨e0, e1⟩ := (N2.out.keep hb2).two; have HM2 := Lib.hid (HM.out.keep hb2 fun c x => blkRA_keep hb2); have hbw2 := bel3 hbw hb2))
      | (go_at_call 15; ((with_reducible refine (PB.out _ _ HM2.out).mono ?_); rintro e w3 ⟨rfl, hb3⟩; have hbw3 := bel3 hbw2 hb3))
      | (go_at_call 11; ((with_reducible refine (AW.out _).mono ?_); rintro e w4 ⟨rfl, hb4⟩; have hbw4 := bel3 hbw3 hb4)))
    go_ret
    exact ⟨rfl, hbw4⟩

end Go.Proofs.Ythdcgplocdehjaa
