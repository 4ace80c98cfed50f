/- The statement SyntaxCut: its walk. -/
import Derived.Test.YthdcgplocdehjaaJb
import Derived.Test.YthdcgplocdehjaaIc
namespace Go.Proofs.Ythdcgplocdehjaa
open Go.RowKit Go.Proofs.Kit

theorem tmod_abs (x n : Int) (hn : 0 < n) : -n < x.tmod n ∧ x.tmod n < n := by
  have h : (x.tmod n).natAbs = x.natAbs % n.natAbs := Int.natAbs_tmod x n
  have := Nat.mod_lt x.natAbs (show 0 < n.natAbs by omega)
  omega
/-- Where the text is cut. -/
theorem at_cut (x : Int) (n : Nat) (hn : 2 < n) : ∃ (r : Int) (a : Nat), x.tmod ((n : Int) - 2) = r ∧ -(n : Int) < r ∧ r < (n : Int) ∧ (r + (n : Int) - 2).tmod ((n : Int) - 2) = (a : Int) ∧ a + 2 < n := by
  have h1 := tmod_abs x ((n : Int) - 2) (by omega)
  refine ⟨_, ((x.tmod ((n : Int) - 2) + (n : Int) - 2).tmod ((n : Int) - 2)).toNat, rfl, by omega, by omega, ?_, ?_⟩
  · have h2 : 0 ≤ (x.tmod ((n : Int) - 2) + (n : Int) - 2).tmod ((n : Int) - 2) := Int.tmod_nonneg _ (by omega)
    omega
  · have h2 := tmod_abs (x.tmod ((n : Int) - 2) + (n : Int) - 2) ((n : Int) - 2) (by omega)
    omega
theorem srcL_min {α : Type} (s : SrcA α) : 14 ≤ (srcL s).length := by
  unfold srcL
  simp only [List.length_append, List.length_cons, List.length_nil]
  omega

set_option maxRecDepth 100000 in
set_option maxHeartbeats 8000000 in
theorem walk_SyntaxCut {s : SrcA Int} {u : Value} {w : World} (hu : SliceOf (blkRA id) 4 w u s.2) (x : Int) :
    Calls Try.prog 8 #[.agg #[strV s.1, u], .int .i64 x] w fun e w' => e = .returned (.bool true) ∧ Below w.heap.size w w' := by
  obtain ⟨K, hK⟩ : ∃ K, strV s.1 = .string K := ⟨_, rfl⟩
  obtain ⟨T, hT⟩ : ∃ T, strV (cutS s).1 = .string T := ⟨_, rfl⟩
  obtain ⟨pu, cu, rfl, _, _⟩ := hu.shape
  obtain ⟨n, hn⟩ : ∃ n, s.2.length = n := ⟨_, rfl⟩
  rw [hn] at hu ⊢
  have hb0 : Below w.heap.size w (w.alloc (.cells #[.string K, .slice pu n cu] 24)) := (Below.refl _ _).alloc (Nat.le_refl _) _
  have CU := Lib.hid (cut_v hK hT (hu.keep hb0 fun c x => blkRA_keep hb0))
  have N0 := Lib.hid (Bk.new w #[.string K, .slice pu n cu] 24)
  obtain ⟨a0, a1⟩ := N0.out.two
  have hsm := cut_sm s
  have PA := Lib.hid (fun (u : Value) (w : World) (h : SliceOf (blkRA id) 4 w u (cutS s).2) => rprint_c (ln := id) hsm w h)
  rw [hT] at PA
  have AW := Lib.hid awake_c
  rw [hK]
  rcases printL_cases (cutS s) with hp | ⟨hp, hok, hlen⟩
  · rw [hp] at PA
    clear hK hT hn hu hp hsm
    go_enter Try.func8, Try.ntmps8
    go_wp2_with (first
      | (go_at_call 13; ((with_reducible refine (CU.out).mono ?_); rintro e w1 ⟨⟨p, m, c, rfl, hm⟩, hb1⟩; have N1 := N0.out.keep hb1; obtain ⟨b0, b1⟩ := N1.two; obtain ⟨f0, f1⟩ := N1.free2; have N2 := Lib.hid (show Bk w.heap.size #[.string T, .slice p m c] ((w1.setCell ⟨w.heap.size, 0, none⟩ (.string T)).setCell ⟨w.heap.size, 1, none⟩ (.slice p m c)) from Bk.put (Bk.put N1 (o := 0) (by simp) (.string T)) (o := 1) (by simp) (.slice p m c)); obtain ⟨d0, d1⟩ := N2.out.two; have HM := Lib.hid (made_box (x := .string T) (y := .slice p m c) hm); have hbw := ((bel3 hb0 hb1).setCell (p := ⟨w.heap.size, 0, none⟩) (Nat.le_refl _) (.string T)).setCell (p := ⟨w.heap.size, 1, none⟩) (Nat.le_refl _) (.slice p m c); clear hm N1))
      | (go_at_call 15; ((with_reducible refine (PA.out _ _ HM.out).mono ?_); rintro e w2 ⟨rfl, hb2⟩; have hbw2 := bel3 hbw hb2))
      | (go_at_call 11; ((with_reducible refine (AW.out _).mono ?_); rintro e w4 ⟨rfl, hb4⟩; have hbw4 := bel3 hbw2 hb4)))
    go_ret
    exact ⟨rfl, hbw4⟩
  · obtain ⟨A, hA⟩ : ∃ A : ByteArray, (⟨(srcL (cutS s)).toArray⟩ : ByteArray) = A := ⟨_, rfl⟩
    have hAd : A.data.toList = srcL (cutS s) := by rw [← hA]
    have hAz : A.size = (srcL (cutS s)).length := by rw [Lib.size_eq, hAd]
    have hAs : A.size ≤ 20000 := by rw [hAz]; exact hlen
    have hmin : 14 ≤ A.size := by rw [hAz]; exact srcL_min _
    obtain ⟨r, a, hr1, hr2, hr3, hr4, ha⟩ := at_cut x A.size (by omega)
    obtain ⟨P, hP⟩ : ∃ P : ByteArray, A.extract 0 a = P := ⟨_, rfl⟩
    have hPd : P.data.toList = (srcL (cutS s)).take a := by rw [← hP, ext_to, hAd]
    have hPs : P.size ≤ 20000 := by rw [Lib.size_eq, hPd, List.length_take]; omega
    have AL := Lib.hid (fun w => rall_l P w hPs)
    have hz1 : ((A.size : Int) - 2 == 0) = false := by rw [beq_eq_false_iff_ne]; omega
    have hz2 : ¬ (A.size : Int) - 2 = 0 := by omega
    rw [hp] at PA
    simp only [hA] at PA
    have HP := Lib.hid hP
    have j1 : (0 : Int) ≤ (a : Int) := by omega
    have j2 : (a : Int) ≤ (A.size : Int) := by omega
    have hlo : -9223372036854775808 ≤ r + (A.size : Int) - 2 := by omega
    have hhi : r + (A.size : Int) - 2 ≤ 9223372036854775807 := by omega
    have hlo2 : -9223372036854775808 ≤ r + (A.size : Int) := by omega
    have hhi2 : r + (A.size : Int) ≤ 9223372036854775807 := by omega
    cases hx : lexL (P.size + 1) 1 P.data.toList with
    | error ln =>
      have hr : parseL P.data.toList = .error ln := by unfold parseL; rw [← Lib.size_eq, hx]
      have PB := Lib.hid (fun w => parse_open P hPs hr (K := ⟨#[]⟩) rfl w)
      rw [hx] at AL
      clear hK hT hn hu hp hsm hA hAd hAz hP hPd hr hx hok hlen
      go_enter Try.func8, Try.ntmps8
      go_wp2_with (first
        | (go_at_call 13; ((with_reducible refine (CU.out).mono ?_); rintro e w1 ⟨⟨p, m, c, rfl, hm⟩, hb1⟩; have N1 := N0.out.keep hb1; obtain ⟨b0, b1⟩ := N1.two; obtain ⟨f0, f1⟩ := N1.free2; have N2 := Lib.hid (show Bk w.heap.size #[.string T, .slice p m c] ((w1.setCell ⟨w.heap.size, 0, none⟩ (.string T)).setCell ⟨w.heap.size, 1, none⟩ (.slice p m c)) from Bk.put (Bk.put N1 (o := 0) (by simp) (.string T)) (o := 1) (by simp) (.slice p m c)); obtain ⟨d0, d1⟩ := N2.out.two; have HM := Lib.hid (made_box (x := .string T) (y := .slice p m c) hm); have hbw := ((bel3 hb0 hb1).setCell (p := ⟨w.heap.size, 0, none⟩) (Nat.le_refl _) (.string T)).setCell (p := ⟨w.heap.size, 1, none⟩) (Nat.le_refl _) (.slice p m c); clear hm N1))
        | (go_at_call 15; ((with_reducible refine (PA.out _ _ HM.out).mono ?_); rintro e w2 ⟨rfl, hb2⟩; have hbw2 := bel3 hbw hb2))
        | (go_at_call 16; (rw [HP.out]); ((with_reducible refine (AL.out _).mono ?_); rintro e w3 ⟨he, hb3⟩; have he : e = .returned (.tuple #[.slice none 0 0, .agg #[.int .i64 1, .int .i64 ln]]) := he; subst he; have hbF : Below w3.heap.size w3 (w3.alloc (.cells #[.int .i64 1, .int .i64 ln] 27)) := (Below.refl _ _).alloc (Nat.le_refl _) _; have RF := Lib.hid (Bk.new w3 #[.int .i64 1, .int .i64 ln] 27); have hbw3 := bel3 (bel3 hbw2 hb3) hbF))
        | (go_at_call 9; (rw [HP.out]); ((with_reducible refine (PB.out _).mono ?_); rintro e w4 ⟨⟨p2, m2, c2, he, hm2⟩, hb4⟩; have he : e = .returned (.tuple #[.agg #[.string ⟨#[]⟩, .slice p2 m2 c2], .agg #[.int .i64 1, .int .i64 ln]]) := he; subst he; obtain ⟨R3, R4, hbB⟩ := (boxes w4 (.string ⟨#[]⟩) (.slice p2 m2 c2) (.int .i64 1) (.int .i64 ln) 24 27).out; have R4 := Lib.hid R4; have hb5 := bel3 hb4 hbB; have hbw4 := bel3 hbw3 hb5; have RF2 := Lib.hid (RF.out.keep hb5); obtain ⟨g0, g1⟩ := RF2.out.two; clear hm2 R3 hb4 hbB))
        | (go_at_call 11; ((with_reducible refine (AW.out _).mono ?_); rintro e w6 ⟨rfl, hb6⟩; have hbw6 := bel3 hbw4 hb6; obtain ⟨e0, e1⟩ := (R4.out.keep hb6).two; obtain ⟨f2, f3⟩ := (RF2.out.keep hb6).two)))
      go_ret
      exact ⟨rfl, hbw6⟩
    | ok T2 =>
      have hx2 : lexL (((srcL (cutS s)).take a).length + 1) 1 ((srcL (cutS s)).take a) = .ok T2 := by rw [← hPd, ← Lib.size_eq]; exact hx
      obtain ⟨hT2, hpr⟩ := cut_law (cutS s) hok hlen (by rw [← hAz]; exact ha) hx2
      rw [← hPd] at hpr
      obtain ⟨E, hE⟩ : ∃ E, (tk T2 (T2.length - 1)).2.2 = E := ⟨_, rfl⟩
      rw [hE] at hpr
      have hTk : TOk T2 := (lexL_ok _ _ _ _ hx).tok (by rw [← Lib.size_eq]; exact hPs)
      have PB := Lib.hid (fun w => parse_open P hPs hpr (K := ⟨#[]⟩) rfl w)
      have AL2 : Hid (∀ w, Calls Try.prog 16 #[.string P] w fun e w' => (∃ g cap, e = .returned (.tuple #[.slice (some ⟨g, 0, none⟩) T2.length cap, .agg #[.int .i64 0, .int .i64 0]]) ∧ T2.length ≤ cap ∧ cap ≤ 9223372036854775807 ∧ w'.cell? ⟨g, (T2.length - 1) * 3 + 2, none⟩ = some (.int .i64 E)) ∧ Below w.heap.size w w') := Lib.hid (fun w => (AL.out w).mono (by
        rintro e w' ⟨h, hb⟩
        rw [hx] at h
        obtain ⟨v, rfl, ho⟩ := (show ∃ v, e = .returned (.tuple #[v, .agg #[.int .i64 0, .int .i64 0]]) ∧ w'.ownsRow w.heap.size 47 3 v T2.length (T2.flatMap tokCells) from h)
        obtain ⟨g, cap, rfl, h1, h2, h3⟩ := Rdr.start (B := w'.heap.size) hTk ho
        have hR := h3 (w'.alloc (.cells #[.slice (some ⟨g, 0, none⟩) T2.length cap, .int .i64 0, .int .i64 0] 0)) ((Below.refl _ _).alloc (Nat.le_refl _) _) (Bk.new _ _ _) (Nat.le_refl _)
        have hc := (hR.row (T2.length - 1) (by omega)).2.2
        have hc2 := (World.cell?_of_block (a := ⟨g, (T2.length - 1) * 3 + 2, none⟩) (Below.heap_alloc w' (.cells #[.slice (some ⟨g, 0, none⟩) T2.length cap, .int .i64 0, .int .i64 0] 0) g h2)).symm.trans hc
        rw [hE] at hc2
        exact ⟨⟨g, cap, rfl, hR.cap1, hR.cap2, hc2⟩, hb⟩))
      have EQ := Lib.hid (fun u v w hu hv => eq_c (la := lnN) (lb := lnN) (SameS.refl true (([], []) : Src)) (u := u) (v := v) w sm_none hu hv)
      rw [show strV (([], []) : Src).1 = .string ⟨#[]⟩ from rfl] at EQ
      obtain ⟨N, hN⟩ : ∃ N, T2.length = N := ⟨_, rfl⟩
      have hNp : 0 < N := by omega
      have hNn : N ≤ 20001 := by rw [← hN]; exact hTk.num
      obtain ⟨M, hM⟩ : ∃ M, N = M + 1 := ⟨N - 1, by omega⟩
      have eT : T2.length = M + 1 := by omega
      rw [eT] at AL2
      rw [show M + 1 - 1 = M by omega] at AL2
      have t1 : decide ((0 : Int) < (M : Int) + 1) = true := by rw [decide_eq_true_iff]; omega
      have t2 : (0 : Int) < (M : Int) + 1 := by omega
      have t3 : (0 : Int) ≤ (M : Int) := by omega
      have t4 : (M : Int) < (M : Int) + 1 := by omega
      have t6 : M ≤ 20001 := by omega
      have t7 : ((M + 1 : Nat) : Int) = (M : Int) + 1 := by omega
      have t8 : IntKind.i64.wrap (M : Int) = (M : Int) := by rw [IntKind.wrap_i64]; omega
      have t9 : IntKind.i64.wrap ((M : Int) + 1 - 1) = (M : Int) := by rw [IntKind.wrap_i64]; omega
      have t10 : ¬ ((M : Int) + 1 ≤ (M : Int)) := by omega
      have t11 : ¬ ((M : Int) < 0) := by omega
      clear hK hT hn hu hp hsm hA hAd hAz hP hPd hpr hx hx2 hok hlen hE hN AL hT2 eT hM hNp hNn
      go_enter Try.func8, Try.ntmps8
      go_upto_region 10 with (first
        | (go_at_call 13; ((with_reducible refine (CU.out).mono ?_); rintro e w1 ⟨⟨p, m, c, rfl, hm⟩, hb1⟩; have N1 := N0.out.keep hb1; obtain ⟨b0, b1⟩ := N1.two; obtain ⟨f0, f1⟩ := N1.free2; have N2 := Lib.hid (show Bk w.heap.size #[.string T, .slice p m c] ((w1.setCell ⟨w.heap.size, 0, none⟩ (.string T)).setCell ⟨w.heap.size, 1, none⟩ (.slice p m c)) from Bk.put (Bk.put N1 (o := 0) (by simp) (.string T)) (o := 1) (by simp) (.slice p m c)); obtain ⟨d0, d1⟩ := N2.out.two; have HM := Lib.hid (made_box (x := .string T) (y := .slice p m c) hm); have hbw := ((bel3 hb0 hb1).setCell (p := ⟨w.heap.size, 0, none⟩) (Nat.le_refl _) (.string T)).setCell (p := ⟨w.heap.size, 1, none⟩) (Nat.le_refl _) (.slice p m c); clear hm N1))
        | (go_at_call 15; ((with_reducible refine (PA.out _ _ HM.out).mono ?_); rintro e w2 ⟨rfl, hb2⟩; have hbw2 := bel3 hbw hb2))
        | (go_at_call 16; (rw [HP.out]); ((with_reducible refine (AL2.out _).mono ?_); rintro e w3 ⟨⟨g, cap, rfl, hc1, hc2, hc3⟩, hb3⟩; have hbF : Below w3.heap.size w3 (w3.alloc (.cells #[.int .i64 0, .int .i64 0] 27)) := (Below.refl _ _).alloc (Nat.le_refl _) _; have RF := Lib.hid (Bk.new w3 #[.int .i64 0, .int .i64 0] 27); have hbw3 := bel3 (bel3 hbw2 hb3) hbF; have hc4 := cell_keep hbF hc3))
        | (go_at_call 9; (rw [HP.out]); ((with_reducible refine (PB.out _).mono ?_); rintro e w4 ⟨⟨p2, m2, c2, he, hm2⟩, hb4⟩; have he : e = .returned (.tuple #[.agg #[.string ⟨#[]⟩, .slice p2 m2 c2], .agg #[.int .i64 1, .int .i64 E]]) := he; subst he; obtain ⟨R3, R4, hbB⟩ := (boxes w4 (.string ⟨#[]⟩) (.slice p2 m2 c2) (.int .i64 1) (.int .i64 E) 24 27).out; have R3 := Lib.hid R3; have R4 := Lib.hid R4; have HM3 := Lib.hid (show SliceOf (blkRA lnN) 4 _ (.slice p2 m2 c2) (([], []) : Src).2 from (hm2.keep hbB).now); have hb5 := bel3 hb4 hbB; have hbw4 := bel3 hbw3 hb5; have RF2 := Lib.hid (RF.out.keep hb5); obtain ⟨g0, g1⟩ := RF2.out.two; have hc5 := cell_keep hb5 hc4; clear hm2 hb4 hbB)))
      obtain ⟨z0, z1⟩ := R3.out.two
      obtain ⟨y0, y1⟩ := R4.out.two
      revert z0 z1 y0 y1 HM3 hc5 hbw4
      clear R3 R4 RF2 RF g0 g1 hc4 hc3 hb5
      generalize hWW : (w4.alloc (.cells #[.string ⟨#[]⟩, .slice p2 m2 c2] 24)).alloc (.cells #[.int .i64 1, .int .i64 E] 27) = W
      intro HM3 hbw4 hc5 z0 z1 y0 y1
      clear hWW
      have hsh := HM3.out.shape
      obtain ⟨_, _, e3, _, _⟩ := hsh
      have hm2 : m2 = 0 := by injection e3
      subst hm2
      clear e3
      have hD := (Below.refl W.heap.size W).drew
      have HALL : Hid (∀ W', Below W.heap.size W W' → (W'.cell? ⟨w4.heap.size, 0, none⟩ = some (.string ⟨#[]⟩) ∧ W'.cell? ⟨w4.heap.size, 1, none⟩ = some (.slice p2 0 c2)) ∧ (W'.cell? ⟨w4.heap.size + 1, 0, none⟩ = some (.int .i64 1) ∧ W'.cell? ⟨w4.heap.size + 1, 1, none⟩ = some (.int .i64 E)) ∧ W'.cell? ⟨g, M * 3 + 2, none⟩ = some (.int .i64 E)) := Lib.hid (fun W' hb => ⟨⟨cell_keep hb z0, cell_keep hb z1⟩, ⟨cell_keep hb y0, cell_keep hb y1⟩, cell_keep hb hc5⟩)
      have HM4 := Lib.hid (HM3.out.keep hD fun c x => blkRA_keep hD)
      have AWD := Lib.hid (AW.out W.drew)
      go_region_held3 (fun W' => (W'.cell? ⟨w4.heap.size, 0, none⟩ = some (.string ⟨#[]⟩) ∧ W'.cell? ⟨w4.heap.size, 1, none⟩ = some (.slice p2 0 c2)) ∧ (W'.cell? ⟨w4.heap.size + 1, 0, none⟩ = some (.int .i64 1) ∧ W'.cell? ⟨w4.heap.size + 1, 1, none⟩ = some (.int .i64 E)) ∧ W'.cell? ⟨g, M * 3 + 2, none⟩ = some (.int .i64 E))
        (first | exact HALL.out _ hD | exact HALL.out _ hD6 | exact HALL.out _ hD7)
        (first
          | (go_at_call 11; ((with_reducible refine (AWD.out).mono ?_); rintro e w6 ⟨rfl, hb6⟩; have hD6 := bel3 hD hb6; have HM5 := Lib.hid (HM4.out.keep hb6 fun c x => blkRA_keep hb6)))
          | (go_at_call 12; ((with_reducible refine (EQ.out _ _ _ HM5.out (SliceOf.nil w6)).mono ?_); rintro e w7 ⟨rfl, hb7⟩; have hD7 := bel3 hD6 hb7)))
      all_goals
        go_wp2_with fail
        go_ret
        exact ⟨rfl, bel3 hbw4 hD7⟩

end Go.Proofs.Ythdcgplocdehjaa
