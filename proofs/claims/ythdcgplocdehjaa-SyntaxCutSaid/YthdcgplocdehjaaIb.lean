/- The statement SyntaxRound: its walk. -/
import Derived.Test.YthdcgplocdehjaaIa
import Derived.Test.YthdcgplocdehjaaHg
namespace Go.Proofs.Ythdcgplocdehjaa
open Go.RowKit Go.Proofs.Kit

theorem printL_cases {α : Type} (s : SrcA α) : printL s = ([], false) ∨ (printL s = (srcL s, true) ∧ srcOk s = true ∧ (srcL s).length ≤ 20000) := by
  unfold printL
  cases h : srcOk s && decide ((srcL s).length ≤ 20000)
  · exact .inl rfl
  · rw [Bool.and_eq_true, decide_eq_true_eq] at h
    exact .inr ⟨rfl, h⟩

set_option maxRecDepth 100000 in
set_option maxHeartbeats 4000000 in
theorem walk_SyntaxRound {s : SrcA Int} {u : Value} {w : World} (hu : SliceOf (blkRA id) 4 w u s.2) :
    Calls Try.prog 5 #[.agg #[strV s.1, u]] w fun e w' => e = .returned (.bool true) ∧ Below w.heap.size w w' := by
  obtain ⟨K, hK⟩ : ∃ K, strV s.1 = .string K := ⟨_, rfl⟩
  obtain ⟨T, hT⟩ : ∃ T, strV (cutS s).1 = .string T := ⟨_, rfl⟩
  obtain ⟨pu, cu, rfl, _, _⟩ := hu.shape
  obtain ⟨n, hn⟩ : ∃ n, s.2.length = n := ⟨_, rfl⟩
  rw [hn] at hu ⊢
  have hb0 : Below w.heap.size w (w.alloc (.cells #[.string K, .slice pu n cu] 24)) := (Below.refl _ _).alloc (Nat.le_refl _) _
  have CU := Lib.hid (cut_v hK hT (hu.keep hb0 fun c x => blkRA_keep hb0))
  have N0 := Lib.hid (Bk.new w #[.string K, .slice pu n cu] 24)
  obtain ⟨a0, a1⟩ := N0.out.two
  have hsm := cut_sm s
  have PA := Lib.hid (fun (u : Value) (w : World) (h : SliceOf (blkRA id) 4 w u (cutS s).2) => print_c (ln := id) hsm w h)
  rw [hT] at PA
  have AW := Lib.hid awake_c
  rw [hK]
  rcases printL_cases (cutS s) with hp | ⟨hp, hok, hlen⟩
  · rw [hp] at PA
    clear hK hT hn hu hp hsm
    go_enter Try.func5, Try.ntmps5
    go_wp2_with (first
      | (go_at_call 13; ((with_reducible refine (CU.out).mono ?_); rintro e w1 ⟨⟨p, m, c, rfl, hm⟩, hb1⟩; have N1 := N0.out.keep hb1; obtain ⟨b0, b1⟩ := N1.two; obtain ⟨f0, f1⟩ := N1.free2; have N2 := Lib.hid (show Bk w.heap.size #[.string T, .slice p m c] ((w1.setCell ⟨w.heap.size, 0, none⟩ (.string T)).setCell ⟨w.heap.size, 1, none⟩ (.slice p m c)) from Bk.put (Bk.put N1 (o := 0) (by simp) (.string T)) (o := 1) (by simp) (.slice p m c)); obtain ⟨d0, d1⟩ := N2.out.two; have HM := Lib.hid (made_box (x := .string T) (y := .slice p m c) hm); have hbw := ((bel3 hb0 hb1).setCell (p := ⟨w.heap.size, 0, none⟩) (Nat.le_refl _) (.string T)).setCell (p := ⟨w.heap.size, 1, none⟩) (Nat.le_refl _) (.slice p m c); clear hm N1))
      | (go_at_call 14; ((with_reducible refine (PA.out _ _ HM.out).mono ?_); rintro e w2 ⟨rfl, hb2⟩; have hbw2 := bel3 hbw hb2))
      | (go_at_call 11; ((with_reducible refine (AW.out _).mono ?_); rintro e w4 ⟨rfl, hb4⟩; have hbw4 := bel3 hbw2 hb4)))
    go_ret
    exact ⟨rfl, hbw4⟩
  · obtain ⟨A, hA⟩ : ∃ A : ByteArray, (⟨(srcL (cutS s)).toArray⟩ : ByteArray) = A := ⟨_, rfl⟩
    have hAs : A.size ≤ 20000 := by rw [← hA, size_mk]; exact hlen
    have hAr : parseL A.data.toList = .ok (reline (cutS s)) := by rw [← hA]; exact round_law _ hok
    have PB := Lib.hid (fun w => parse_open A hAs hAr (K := T) hT w)
    rw [hp] at PA
    simp only [hA] at PA
    obtain ⟨_, _, _, g4⟩ := reline_text (cutS s)
    have EQ := Lib.hid (fun u v w hu hv => eq_c (la := lnN) (lb := id) (reline_same (cutS s)) (u := u) (v := v) w (g4 hsm) hu hv)
    rw [show strV (reline (cutS s)).1 = .string T from hT, hT] at EQ
    clear hK hT hn hu hp hsm hA hAr hok hlen g4
    go_enter Try.func5, Try.ntmps5
    go_wp2_with (first
      | (go_at_call 13; ((with_reducible refine (CU.out).mono ?_); rintro e w1 ⟨⟨p, m, c, rfl, hm⟩, hb1⟩; have N1 := N0.out.keep hb1; obtain ⟨b0, b1⟩ := N1.two; obtain ⟨f0, f1⟩ := N1.free2; have N2 := Lib.hid (show Bk w.heap.size #[.string T, .slice p m c] ((w1.setCell ⟨w.heap.size, 0, none⟩ (.string T)).setCell ⟨w.heap.size, 1, none⟩ (.slice p m c)) from Bk.put (Bk.put N1 (o := 0) (by simp) (.string T)) (o := 1) (by simp) (.slice p m c)); obtain ⟨d0, d1⟩ := N2.out.two; have HM := Lib.hid (made_box (x := .string T) (y := .slice p m c) hm); have hbw := ((bel3 hb0 hb1).setCell (p := ⟨w.heap.size, 0, none⟩) (Nat.le_refl _) (.string T)).setCell (p := ⟨w.heap.size, 1, none⟩) (Nat.le_refl _) (.slice p m c); clear hm N1))
      | (go_at_call 14; ((with_reducible refine (PA.out _ _ HM.out).mono ?_); rintro e w2 ⟨rfl, hb2⟩; have hbw2 := bel3 hbw hb2; have N3 := Lib.hid (N2.out.keep hb2); have HM2 := Lib.hid (HM.out.keep hb2 fun c x => blkRA_keep hb2)))
      | (go_at_call 9; ((with_reducible refine (PB.out _).mono ?_); rintro e w3 ⟨⟨p2, m2, c2, he, hm2⟩, hb3⟩; have he : e = .returned (.tuple #[.agg #[.string T, .slice p2 m2 c2], .agg #[.int .i64 0, .int .i64 0]]) := he; have hm2 : Made w2.heap.size (fun W => SliceOf (blkRA lnN) 4 W (.slice p2 m2 c2) (reline (cutS s)).2) w3 := hm2; subst he; obtain ⟨R3, R4, hbB⟩ := (boxes w3 (.string T) (.slice p2 m2 c2) (.int .i64 0) (.int .i64 0) 24 27).out; have R3 := Lib.hid R3; have R4 := Lib.hid R4; have HM3 := Lib.hid (hm2.keep hbB).now; have hb4 := bel3 hb3 hbB; have hbw3 := bel3 hbw2 hb4; have N4 := Lib.hid (N3.out.keep hb4); have HM4 := Lib.hid (HM2.out.keep hb4 fun c x => blkRA_keep hb4); clear hm2 hb3 hbB))
      | (go_at_call 11; ((with_reducible refine (AW.out _).mono ?_); rintro e w6 ⟨rfl, hb6⟩; have hbw6 := bel3 hbw3 hb6; obtain ⟨g0, g1⟩ := (N4.out.keep hb6).two; obtain ⟨e0, e1⟩ := (R3.out.keep hb6).two; obtain ⟨f2, f3⟩ := (R4.out.keep hb6).two; have HMe := Lib.hid (HM3.out.keep hb6 fun c x => blkRA_keep hb6); have HMf := Lib.hid (HM4.out.keep hb6 fun c x => blkRA_keep hb6)))
      | (go_at_call 12; ((with_reducible refine (EQ.out _ _ _ HMe.out HMf.out).mono ?_); rintro e w7 ⟨rfl, hb7⟩)))
    go_ret
    exact ⟨rfl, bel3 hbw6 hb7⟩

end Go.Proofs.Ythdcgplocdehjaa
