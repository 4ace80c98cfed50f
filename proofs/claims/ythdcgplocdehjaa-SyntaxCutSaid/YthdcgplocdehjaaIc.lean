/- The statement SyntaxLines: its walk. -/
import Derived.Test.YthdcgplocdehjaaIb
namespace Go.Proofs.Ythdcgplocdehjaa
open Go.RowKit Go.Proofs.Kit

section
variable {α : Type}
def sumN (bs : List (BlkA α)) : Nat := (bs.map fun b => 2 + b.2.2.1.length).sum
theorem lineAt_sum : ∀ (bs : List (BlkA α)) (n j : Nat), j < bs.length → lineAt bs n j = n + sumN (bs.take j) := by
  intro bs
  induction bs with
  | nil => intro n j h; simp at h
  | cons b bs ih =>
    intro n j h
    cases j with
    | zero => rfl
    | succ j =>
      show lineAt bs _ j = _
      rw [ih _ j (by simpa using h)]
      unfold sumN
      rw [List.take_succ_cons, List.map_cons, List.sum_cons]
      omega
theorem sumN_next (bs : List (BlkA α)) (j : Nat) (h : j < bs.length) : sumN (bs.take (j + 1)) = sumN (bs.take j) + (2 + bs[j].2.2.1.length) := by
  rw [List.take_succ_eq_append_getElem h]
  unfold sumN
  rw [List.map_append, List.sum_append]
  simp
theorem sumN_le (bs : List (BlkA α)) (hb : ∀ b ∈ bs, b.2.2.1.length ≤ 1000) : ∀ j, j ≤ bs.length → sumN (bs.take j) ≤ j * 1002 := by
  intro j
  induction j with
  | zero => intro _; simp [sumN]
  | succ j ih =>
    intro h
    rw [sumN_next bs j (by omega)]
    have := ih (by omega)
    have := hb _ (List.getElem_mem (show j < bs.length by omega))
    omega
end

set_option maxRecDepth 100000 in
set_option maxHeartbeats 8000000 in
theorem walk_SyntaxLines {s : SrcA Int} {u : Value} {w : World} (hu : SliceOf (blkRA id) 4 w u s.2) :
    Calls Try.prog 7 #[.agg #[strV s.1, u]] w fun e w' => e = .returned (.bool true) ∧ Below w.heap.size w w' := by
  obtain ⟨K, hK⟩ : ∃ K, strV s.1 = .string K := ⟨_, rfl⟩
  obtain ⟨T, hT⟩ : ∃ T, strV (cutS s).1 = .string T := ⟨_, rfl⟩
  obtain ⟨pu, cu, rfl, _, _⟩ := hu.shape
  obtain ⟨n, hn⟩ : ∃ n, s.2.length = n := ⟨_, rfl⟩
  rw [hn] at hu ⊢
  have hb0 : Below w.heap.size w (w.alloc (.cells #[.string K, .slice pu n cu] 24)) := (Below.refl _ _).alloc (Nat.le_refl _) _
  have CU := Lib.hid (cut_v hK hT (hu.keep hb0 fun c x => blkRA_keep hb0))
  have N0 := Lib.hid (Bk.new w #[.string K, .slice pu n cu] 24)
  obtain ⟨a0, a1⟩ := N0.out.two
  have hsm := cut_sm s
  have PA := Lib.hid (fun (u : Value) (w : World) (h : SliceOf (blkRA id) 4 w u (cutS s).2) => print_c (ln := id) hsm w h)
  rw [hT] at PA
  have AW := Lib.hid awake_c
  rw [hK]
  rcases printL_cases (cutS s) with hp | ⟨hp, hok, hlen⟩
  · rw [hp] at PA
    clear hK hT hn hu hp hsm
    go_enter Try.func7, Try.ntmps7
    go_wp2_with (first
      | (go_at_call 13; ((with_reducible refine (CU.out).mono ?_); rintro e w1 ⟨⟨p, m, c, rfl, hm⟩, hb1⟩; have N1 := N0.out.keep hb1; obtain ⟨b0, b1⟩ := N1.two; obtain ⟨f0, f1⟩ := N1.free2; have N2 := Lib.hid (show Bk w.heap.size #[.string T, .slice p m c] ((w1.setCell ⟨w.heap.size, 0, none⟩ (.string T)).setCell ⟨w.heap.size, 1, none⟩ (.slice p m c)) from Bk.put (Bk.put N1 (o := 0) (by simp) (.string T)) (o := 1) (by simp) (.slice p m c)); obtain ⟨d0, d1⟩ := N2.out.two; have HM := Lib.hid (made_box (x := .string T) (y := .slice p m c) hm); have hbw := ((bel3 hb0 hb1).setCell (p := ⟨w.heap.size, 0, none⟩) (Nat.le_refl _) (.string T)).setCell (p := ⟨w.heap.size, 1, none⟩) (Nat.le_refl _) (.slice p m c); clear hm N1))
      | (go_at_call 14; ((with_reducible refine (PA.out _ _ HM.out).mono ?_); rintro e w2 ⟨rfl, hb2⟩; have hbw2 := bel3 hbw hb2))
      | (go_at_call 11; ((with_reducible refine (AW.out _).mono ?_); rintro e w4 ⟨rfl, hb4⟩; have hbw4 := bel3 hbw2 hb4)))
    go_ret
    exact ⟨rfl, hbw4⟩
  · obtain ⟨A, hA⟩ : ∃ A : ByteArray, (⟨(srcL (cutS s)).toArray⟩ : ByteArray) = A := ⟨_, rfl⟩
    have hAs : A.size ≤ 20000 := by rw [← hA, size_mk]; exact hlen
    have hAr : parseL A.data.toList = .ok (reline (cutS s)) := by rw [← hA]; exact round_law _ hok
    have PB := Lib.hid (fun w => parse_open A hAs hAr (K := T) hT w)
    rw [hp] at PA
    simp only [hA] at PA
    obtain ⟨_, _, _, g4⟩ := reline_text (cutS s)
    obtain ⟨b1, b2, b3, b4⟩ := relB_text (cutS s).2 2
    have hsm2 := g4 hsm
    obtain ⟨x, hx⟩ : ∃ x, (cutS s).2 = x := ⟨_, rfl⟩
    obtain ⟨N, hN⟩ : ∃ N, x.length = N := ⟨_, rfl⟩
    have hNs : N ≤ 1000 := by rw [← hN, ← hx]; exact hsm.2.1
    have hfl : ∀ b ∈ x, b.2.2.1.length ≤ 1000 := fun b hb => (hsm.2.2 b (by rw [hx]; exact hb)).2.2.1
    have hSL := sumN_le x hfl
    have HSX : Hid (∀ p c W, SliceOf (blkRA id) 4 W (.slice p N c) (cutS s).2 → SliceOf (blkRA id) 4 W (.slice p N c) x) := Lib.hid (fun p c W h => by rw [← hx]; exact h)
    have HSU : Hid (∀ p m c W, SliceOf (blkRA lnN) 4 W (.slice p m c) (reline (cutS s)).2 → SliceOf (blkRA lnN) 4 W (.slice p m c) (relB x 2) ∧ m = N) := Lib.hid (fun p m c W h => by
      have e : (reline (cutS s)).2 = relB x 2 := by rw [← hx]; rfl
      rw [e] at h
      obtain ⟨_, _, hsh, _⟩ := h.shape
      injection hsh with _ h2 _
      exact ⟨h, by rw [h2, (relB_text x 2).2.2.1, hN]⟩)
    have HSM : Hid (∀ p m c W, SliceOf (blkRA id) 4 W (.slice p m c) (cutS s).2 → m = N) := Lib.hid (fun p m c W h => by
      obtain ⟨_, _, hsh, _⟩ := h.shape
      injection hsh with _ h2 _
      rw [h2, hx, hN])
    have HN := Lib.hid hN
    have HSLL := Lib.hid hSL
    clear hK hT hn hu hp hsm hA hAr hok hlen g4 b1 b2 b3 b4 hsm2 hx hN hSL
    go_enter Try.func7, Try.ntmps7
    go_wp2_with (first
      | (go_at_call 13; ((with_reducible refine (CU.out).mono ?_); rintro e w1 ⟨⟨p, m, c, rfl, hm⟩, hb1⟩; have N1 := N0.out.keep hb1; obtain ⟨b0, b1⟩ := N1.two; obtain ⟨f0, f1⟩ := N1.free2; have N2 := Lib.hid (show Bk w.heap.size #[.string T, .slice p m c] ((w1.setCell ⟨w.heap.size, 0, none⟩ (.string T)).setCell ⟨w.heap.size, 1, none⟩ (.slice p m c)) from Bk.put (Bk.put N1 (o := 0) (by simp) (.string T)) (o := 1) (by simp) (.slice p m c)); obtain ⟨d0, d1⟩ := N2.out.two; have HM := Lib.hid (made_box (x := .string T) (y := .slice p m c) hm); have hbw := ((bel3 hb0 hb1).setCell (p := ⟨w.heap.size, 0, none⟩) (Nat.le_refl _) (.string T)).setCell (p := ⟨w.heap.size, 1, none⟩) (Nat.le_refl _) (.slice p m c); clear hm N1; obtain rfl : N = m := (HSM.out _ _ _ _ HM.out).symm))
      | (go_at_call 14; ((with_reducible refine (PA.out _ _ HM.out).mono ?_); rintro e w2 ⟨rfl, hb2⟩; have hbw2 := bel3 hbw hb2; have N3 := Lib.hid (N2.out.keep hb2); have HM2 := Lib.hid (HM.out.keep hb2 fun c x => blkRA_keep hb2)))
      | (go_at_call 9; ((with_reducible refine (PB.out _).mono ?_); rintro e w3 ⟨⟨p2, m2, c2, he, hm2⟩, hb3⟩; have he : e = .returned (.tuple #[.agg #[.string T, .slice p2 m2 c2], .agg #[.int .i64 0, .int .i64 0]]) := he; have hm2 : Made w2.heap.size (fun W => SliceOf (blkRA lnN) 4 W (.slice p2 m2 c2) (reline (cutS s)).2) w3 := hm2; subst he; obtain ⟨R3, R4, hbB⟩ := (boxes w3 (.string T) (.slice p2 m2 c2) (.int .i64 0) (.int .i64 0) 24 27).out; have R3 := Lib.hid R3; have R4 := Lib.hid R4; have HM3 := Lib.hid (hm2.keep hbB).now; obtain rfl : N = m2 := (HSU.out _ _ _ _ HM3.out).2.symm; have hNN : ((N : Int) != (N : Int)) = false := (by simp); have hb4 := bel3 hb3 hbB; have hbw3 := bel3 hbw2 hb4; have N4 := Lib.hid (N3.out.keep hb4); have HM4 := Lib.hid (HM2.out.keep hb4 fun c x => blkRA_keep hb4); obtain ⟨z0, z1⟩ := N4.out.two; obtain ⟨y0, y1⟩ := R3.out.two; obtain ⟨v0, v1⟩ := R4.out.two; have HXA := Lib.hid (HSX.out _ _ _ HM4.out); have HUA := Lib.hid (HSU.out _ _ _ _ HM3.out).1; clear hm2 hb3 hbB)))
    obtain ⟨W, hW⟩ : ∃ W, (w3.alloc (.cells #[.string T, .slice p2 N c2] 24)).alloc (.cells #[.int .i64 0, .int .i64 0] 27) = W := ⟨_, rfl⟩
    rw [hW] at z0 z1 y0 y1 HXA HUA hbw3 ⊢
    clear R3 R4 N4 hW hb4 HM3 HM4 v0 v1
    go_loopw [7, 40] (fun ln i wr => ∃ k : Nat, k ≤ N ∧ ln = .int .i64 ((1 + sumN (x.take k) : Nat) : Int) ∧ i = .int .i64 k ∧ Below W.heap.size W wr) (fun _ i _ => N - (intOf i).toNat)
    case atStart => exact ⟨0, Nat.zero_le _, rfl, rfl, Below.refl _ _⟩
    case round =>
      obtain ⟨k, hk, rfl, rfl, hbr⟩ := hrel
      have hbw4 := bel3 hbw3 hbr
      by_cases hlt : k < N
      · have hkx : k < x.length := by rw [HN.out]; exact hlt
        have hku : k < (relB x 2).length := by rw [(relB_text x 2).2.2.1]; exact hkx
        obtain ⟨g, off, SK, SN, r, cr, rfl, t1, t2, HUk, r1, r2, g0, g1, g2, g3⟩ := blk_at (HUA.out.keep hbr fun c x => blkRA_keep hbr) hku
        obtain ⟨g', off', SK', SN', r', cr', rfl, t1', t2', HVk, r1', r2', g0', g1', g2', g3'⟩ := blk_at (HXA.out.keep hbr fun c x => blkRA_keep hbr) hkx
        obtain ⟨X1, hX1⟩ : ∃ z, x[k] = z := ⟨_, rfl⟩
        have hru : (relB x 2)[k] = (X1.1, X1.2.1, relF X1.2.2.1 (lineAt x 2 k + 1), lineAt x 2 k) := by rw [relB_get x 2 k hku hkx, hX1]
        obtain ⟨L, hL⟩ : ∃ L, 1 + sumN (x.take k) = L := ⟨_, rfl⟩
        have hLA : lineAt x 2 k = L + 1 := by rw [lineAt_sum x 2 k hkx]; omega
        rw [hLA] at hru
        obtain ⟨m, hm⟩ : ∃ m, X1.2.2.1.length = m := ⟨_, rfl⟩
        have hml : m ≤ 1000 := by rw [← hm, ← hX1]; exact hfl _ (List.getElem_mem hkx)
        have HNX : Hid (1 + sumN (x.take (k + 1)) = L + m + 2) := Lib.hid (by rw [sumN_next x k hkx, hX1, hm]; omega)
        have hLl : L ≤ 1002001 := by
          have h1 := HSLL.out k (by omega)
          have h2 : k * 1002 ≤ 1000 * 1002 := Nat.mul_le_mul_right _ (by omega)
          omega
        rw [hru] at HUk g2 g3
        simp only [(relF_text X1.2.2.1 (L + 1 + 1)).2.2.1, hm] at HUk g2 g3
        rw [hX1, hm] at g2'
        have HFU : Hid (∀ j (h : j < (relF X1.2.2.1 (L + 2)).length), (relF X1.2.2.1 (L + 2))[j].2.2 = L + 2 + j ∧ j < m) := Lib.hid (fun j h => by
          have h2 : j < X1.2.2.1.length := by rw [(relF_text X1.2.2.1 (L + 2)).2.2.1] at h; exact h
          rw [relF_get _ _ _ h h2]
          exact ⟨rfl, by omega⟩)
        have HFL : Hid ((relF X1.2.2.1 (L + 2)).length = m) := Lib.hid (by rw [(relF_text X1.2.2.1 (L + 2)).2.2.1, hm])
        have HUk := Lib.hid HUk
        have i1 : (k : Int) < (N : Int) := by omega
        have i2 : (0 : Int) ≤ (k : Int) := by omega
        have hmm : ((m : Int) != (m : Int)) = false := by simp
        have z2 := cell_keep hbr z1
        have y2 := cell_keep hbr y1
        have hln : ((1 + sumN (x.take k) : Nat) : Int) = (L : Int) := by rw [hL]
        rw [hln]
        have hcm : ((L + 1 : Nat) : Int) = (L : Int) + 1 := by omega
        have g3 : wr.cell? ⟨g, off + k * 4 + 3, none⟩ = some (.int .i64 ((L : Int) + 1)) := by rw [g3, ← hcm]
        have hwrap : (((L : Int) + 1) != ((L : Int) + 1)) = false := by simp
        clear hX1 hru hL hLA hm t1 t2 t1' t2' hln hcm HVk g3' g0' g1' r1 r1' hkx hku
        obtain ⟨wo, rfl⟩ : ∃ x, x = wr := ⟨_, rfl⟩
        go_upto_region 13 with fail
        go_cut [69] (fun s wx => s = .bool false ∧ Hid (Below wo.heap.size wo wx))
        case first =>
          go_quiet (fail)
          go_wp2_with fail
          go_meet
          exact ⟨rfl, Lib.hid (below_drewN (Below.refl _ _) _)⟩
        case rest =>
        obtain ⟨rfl, hcb⟩ := hcut
        have hb5 := hcb.out
        have hbc := hbr.trans (hb5.mono hbr.size)
        have y3 := cell_keep hb5 y2
        have g4 := cell_keep hb5 g2
        have HUc := Lib.hid (HUk.out.keep hb5 fun c x => fldRA_keep hb5)
        go_wp2_with fail
        go_loopw [7, 77] (fun ln i wr => ∃ j : Nat, j ≤ m ∧ ln = .int .i64 ((L : Int) + 1 + (j : Int)) ∧ i = .int .i64 j ∧ Below wc.heap.size wc wr) (fun _ i _ => m - (intOf i).toNat)
        case atStart => exact ⟨0, Nat.zero_le _, by simp, rfl, Below.refl _ _⟩
        case round =>
          obtain ⟨j, hj, rfl, rfl, hbi⟩ := hrel
          by_cases hjt : j < m
          · have hjl : j < (relF X1.2.2.1 (L + 2)).length := by rw [HFL.out]; exact hjt
            obtain ⟨gz, oz, SZ, uz, ez, c1, hrz, q0, q3, q4⟩ := fld_at (HUc.out.keep hbi fun c x => fldRA_keep hbi) hjl
            subst ez
            rw [(HFU.out j hjl).1] at q4
            have q4 : wr.cell? ⟨gz, oz + j * 3 + 2, none⟩ = some (.int .i64 ((L : Int) + 1 + (j : Int) + 1)) := by
              rw [q4]
              show some (Value.int .i64 ((L + 2 + j : Nat) : Int)) = _
              congr 2
              omega
            have j1 : (j : Int) < (m : Int) := by omega
            have j2 : (0 : Int) ≤ (j : Int) := by omega
            have y4 := cell_keep hbi y3
            have g5 := cell_keep hbi g4
            have hjj : (((L : Int) + 1 + (j : Int) + 1) != ((L : Int) + 1 + (j : Int) + 1)) = false := by simp
            clear c1 hrz hjl
            obtain ⟨wo2, rfl⟩ : ∃ x, x = wr := ⟨_, rfl⟩
            go_wp2_with fail
            go_roundw
            case rel => exact ⟨j + 1, by omega, by go_num, by go_num, hbi⟩
            case measure => simp [intOf]; omega
          · have hjm : j = m := by omega
            subst hjm
            go_wp2_with fail
            go_roundw
            case rel => exact ⟨k + 1, by omega, by rw [HNX.out]; congr 1; omega, by go_num, hbc.trans (hbi.mono hbc.size)⟩
            case measure => simp [intOf]; omega
      · go_wp2_with (go_at_call 11; ((with_reducible refine (AW.out _).mono ?_); rintro e w6 ⟨rfl, hb6⟩))
        go_ret
        exact ⟨rfl, bel3 hbw4 hb6⟩

end Go.Proofs.Ythdcgplocdehjaa
