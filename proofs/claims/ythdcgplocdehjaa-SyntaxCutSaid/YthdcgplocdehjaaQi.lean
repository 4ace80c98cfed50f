/- The reference: Parse, its walk. -/
import Derived.Test.YthdcgplocdehjaaZH
import Derived.Test.YthdcgplocdehjaaZC
import Derived.Test.YthdcgplocdehjaaZD
namespace Go.Proofs.Ythdcgplocdehjaa
open Go.RowKit Go.Proofs.Kit

theorem rall_l (s : ByteArray) (w : World) (hs : s.size ≤ 20000) :
    Calls Try.prog 16 #[.string s] w fun e w' => ARet w.heap.size (lexL (s.size + 1) 1 s.data.toList) e w' ∧ Below w.heap.size w w' := by
  have := rall_any s w hs
  rw [Lib.size_eq, ← lex_all, ← Lib.size_eq] at this
  exact this

set_option maxRecDepth 100000 in
set_option maxHeartbeats 8000000 in
theorem rparse_c (s : ByteArray) (w : World) (hs : s.size ≤ 20000) :
    Calls Try.prog 10 #[.string s] w fun e w' => RPRet w.heap.size (lexL (s.size + 1) 1 s.data.toList) e w' ∧ Below w.heap.size w w' := by
  have AL := Lib.hid (fun w => rall_l s w hs)
  have hBd0 : Below w.heap.size w ((w.alloc (.cells #[.string ⟨#[]⟩, .slice none 0 0] 24)).alloc (.cells #[.int .i64 0, .int .i64 0] 27)) := ((Below.refl _ _).alloc (Nat.le_refl _) _).alloc (by simp) _
  have R10 := (Bk.new w #[.string ⟨#[]⟩, .slice none 0 0] 24).keep ((Below.refl _ _).alloc (Nat.le_refl _) (.cells #[.int .i64 0, .int .i64 0] 27))
  have R20 : Bk (w.heap.size + 1) #[.int .i64 0, .int .i64 0] ((w.alloc (.cells #[.string ⟨#[]⟩, .slice none 0 0] 24)).alloc (.cells #[.int .i64 0, .int .i64 0] 27)) := Bk.newAt _ _ _ (by simp)
  obtain ⟨W, hW⟩ : ∃ W, (w.alloc (.cells #[.string ⟨#[]⟩, .slice none 0 0] 24)).alloc (.cells #[.int .i64 0, .int .i64 0] 27) = W := ⟨_, rfl⟩
  rw [hW] at hBd0 R10 R20
  have HW := Lib.hid hW
  have R1 := Lib.hid R10
  have R2 := Lib.hid R20
  clear hW R10 R20
  have hsl : s.data.toList.length ≤ 20000 := by rw [← Lib.size_eq]; exact hs
  cases hx : lexL (s.size + 1) 1 s.data.toList with
  | error n0 =>
    have HX := Lib.hid hx
    rw [hx] at AL
    clear hx
    have hE : RPRet w.heap.size (.error n0) = fun e _ => e = .returned (.tuple #[srcNo, .agg #[.int .i64 1, .int .i64 n0]]) := rfl
    rw [hE]
    clear hE
    go_enter Try.func10, Try.ntmps10
    go_upto_region 1 with fail
    rw [HW.out]
    go_wp2_with (go_at_call 16; ((with_reducible refine (AL.out _).mono ?_); rintro e w1 ⟨hr, hb1⟩; have e1 : e = .returned (.tuple #[.slice none 0 0, .agg #[.int .i64 1, .int .i64 n0]]) := hr; subst e1; clear hr; have hA1 := (Below.refl w1.heap.size w1).alloc (Nat.le_refl _) (.cells #[.int .i64 1, .int .i64 n0] 27); have R1a := (R1.out.keep hb1).keep hA1; have R2a := (R2.out.keep hb1).keep hA1; have hs1 := hb1.size; have hr1 := R1.out.1; have hr2 := R2.out.1; have hn1 : ¬ w1.heap.size = w.heap.size := (by omega); have hn2 : ¬ w.heap.size = w1.heap.size := (by omega); have hn3 : ¬ w1.heap.size = w.heap.size + 1 := (by omega); have hn4 : ¬ w.heap.size + 1 = w1.heap.size := (by omega); have hB1 := (bel3 hBd0 hb1).trans (hA1.mono (by omega)); obtain ⟨a0, a1⟩ := (R1a.keep (Below.refl _ _).drew).two; obtain ⟨b0, b1⟩ := (R2a.keep (Below.refl _ _).drew).two; obtain ⟨f0, f1⟩ := (R1a.keep (Below.refl _ _).drew).free2; obtain ⟨g0, g1⟩ := (R2a.keep (Below.refl _ _).drew).free2))
    obtain ⟨t0, t1⟩ := ((Bk.new w1 #[.int .i64 1, .int .i64 n0] 27).keep (Below.refl _ _).drew).two
    obtain ⟨c0, c1⟩ := R1a.two
    obtain ⟨d0, d1⟩ := R2a.two
    obtain ⟨h0, h1⟩ := R1a.free2
    obtain ⟨i0, i1⟩ := R2a.free2
    go_region
    all_goals
      go_wp2_with fail
      refine bodyPost_ret (v := .tuple #[.agg #[.string ⟨#[]⟩, .slice none 0 0], .agg #[.int .i64 1, .int .i64 n0]]) (by simp [results, Try.results10, go_sem, c0, c1, d0, d1]) rfl ?_
      exact ⟨rfl, ((((hB1.setCell (p := ⟨w.heap.size, 0, none⟩) (Nat.le_refl _) _).setCell (p := ⟨w.heap.size, 1, none⟩) (Nat.le_refl _) _).setCell (p := ⟨w.heap.size + 1, 0, none⟩) (Nat.le_succ _) _).setCell (p := ⟨w.heap.size + 1, 1, none⟩) (Nat.le_succ _) _).drew⟩
  | ok T =>
    have hT : TOk T := (lexL_ok _ _ _ _ hx).tok hsl
    rw [hx] at AL
    clear hx
    have hTn := hT.num
    obtain ⟨S1, hS1⟩ : ∃ S : ByteArray, (⟨(takeT T ⟨0, 0⟩ 1 elW).2.1.toArray⟩ : ByteArray) = S := ⟨_, rfl⟩
    obtain ⟨sA, hsA⟩ : ∃ x, needS T ⟨0, 0⟩ 1 elW = x := ⟨_, rfl⟩
    have NA := Lib.hid (fun (B g n cap : Nat) (w' : World) (g' : Rdr B g n cap T ⟨0, 0⟩ w') => rtake_v hT g' 1 ⟨#[101, 108, 101, 99, 116, 105, 111, 110]⟩ hS1 hsA)
    obtain ⟨S2, hS2⟩ : ∃ S : ByteArray, (⟨(takeT T sA 3 []).2.1.toArray⟩ : ByteArray) = S := ⟨_, rfl⟩
    obtain ⟨sB, hsB⟩ : ∃ x, needS T sA 3 [] = x := ⟨_, rfl⟩
    have NB := Lib.hid (fun (B g n cap : Nat) (w' : World) (g' : Rdr B g n cap T sA w') => rtake_v hT g' 3 ⟨#[]⟩ hS2 hsB)
    obtain ⟨S3, hS3⟩ : ∃ S : ByteArray, (⟨(takeT T sB 4 [123]).2.1.toArray⟩ : ByteArray) = S := ⟨_, rfl⟩
    obtain ⟨sC, hsC⟩ : ∃ x, needS T sB 4 [123] = x := ⟨_, rfl⟩
    have NC := Lib.hid (fun (B g n cap : Nat) (w' : World) (g' : Rdr B g n cap T sB w') => rtake_v hT g' 4 ⟨#[123]⟩ hS3 hsC)
    have HT1 : Hid (rsrcT T = ((takeT T sA 3 []).2.1, rbsT T (T.length + 1) sC)) := Lib.hid (by unfold rsrcT srcC srcA; rw [hsA, hsB, hsC])
    have HT2 : Hid (rsrcS T = needS T (needS T (rbsS T (T.length + 1) sC) 4 [125]) 5 []) := Lib.hid (by unfold rsrcS srcC srcA; rw [hsA, hsB, hsC])
    have HTI : Hid (strV (takeT T sA 3 []).2.1 = .string S2) := Lib.hid (by unfold strV; rw [hS2])
    clear hS1 hsA hS2 hsB hS3 hsC
    go_enter Try.func10, Try.ntmps10
    go_upto_region 1 with fail
    rw [HW.out]
    go_upto_region 5 with (go_at_call 16; ((with_reducible refine (AL.out _).mono ?_); rintro e w1 ⟨hr, hb1⟩; obtain ⟨v, rfl, ho⟩ := (show ∃ v, e = .returned (.tuple #[v, .agg #[.int .i64 0, .int .i64 0]]) ∧ w1.ownsRow W.heap.size 47 3 v T.length (T.flatMap tokCells) from hr); obtain ⟨g, cap, rfl, hg1, hg2, HPS⟩ := Rdr.start (B := w1.heap.size + 1) hT ho; have HPS := Lib.hid HPS; clear hr ho))
    have hs1 := hb1.size
    have hr1 := R1.out.1
    have hr2 := R2.out.1
    have hA1 := (Below.refl w1.heap.size w1).alloc (Nat.le_refl _) (.cells #[.int .i64 0, .int .i64 0] 27)
    have hZb : Below w1.heap.size w1 ((w1.alloc (.cells #[.int .i64 0, .int .i64 0] 27)).alloc (.cells #[.slice (some ⟨g, 0, none⟩) T.length cap, .int .i64 0, .int .i64 0] 57)) := hA1.alloc (by simp) _
    have hsz : ((w1.alloc (.cells #[.int .i64 0, .int .i64 0] 27)).alloc (.cells #[.slice (some ⟨g, 0, none⟩) T.length cap, .int .i64 0, .int .i64 0] 57)).heap.size = w1.heap.size + 2 := by simp
    have KZ : Knr (w1.heap.size + 1) g T.length cap T ⟨0, 0⟩ ((w1.alloc (.cells #[.int .i64 0, .int .i64 0] 27)).alloc (.cells #[.slice (some ⟨g, 0, none⟩) T.length cap, .int .i64 0, .int .i64 0] 57)) (fun W => Bk w.heap.size srcZ W ∧ Bk (w.heap.size + 1) fltZ W) ((w1.alloc (.cells #[.int .i64 0, .int .i64 0] 27)).alloc (.cells #[.slice (some ⟨g, 0, none⟩) T.length cap, .int .i64 0, .int .i64 0] 57)) :=
      ⟨HPS.out _ hZb (Bk.newAt _ _ _ (by simp)) (by omega), ⟨(R1.out.keep hb1).keep hZb, (R2.out.keep hb1).keep hZb⟩, Upd.refl _ _, fun _ _ hu k => ⟨k.1.upd hu (by omega), k.2.upd hu (by omega)⟩⟩
    have hBw : Below w.heap.size w ((w1.alloc (.cells #[.int .i64 0, .int .i64 0] 27)).alloc (.cells #[.slice (some ⟨g, 0, none⟩) T.length cap, .int .i64 0, .int .i64 0] 57)) := (bel3 hBd0 hb1).trans (hZb.mono (by omega))
    have hgr : w.heap.size + 1 < g := by omega
    have hq1 : w.heap.size + 1 < w1.heap.size + 1 := by omega
    have hq2 : g < w1.heap.size + 1 := by omega
    have hq3 : w1.heap.size + 1 < ((w1.alloc (.cells #[.int .i64 0, .int .i64 0] 27)).alloc (.cells #[.slice (some ⟨g, 0, none⟩) T.length cap, .int .i64 0, .int .i64 0] 57)).heap.size := by omega
    clear hsz hA1 hZb HPS
    revert KZ hBw hq1 hq2 hq3
    generalize (w1.alloc (.cells #[.int .i64 0, .int .i64 0] 27)).alloc (.cells #[.slice (some ⟨g, 0, none⟩) T.length cap, .int .i64 0, .int .i64 0] 57) = Z
    generalize w1.heap.size + 1 = B
    intro KZ hBw hq1 hq2 hq3
    have K0 := Lib.hid KZ
    clear KZ
    have hF0 := K0.out.u.below.size
    have K1 := Lib.hid ((K0.out.alloc (.cells #[.string ⟨#[]⟩, .slice none 0 0] 24)).with_ (R := Bk Z.heap.size #[.string ⟨#[]⟩, .slice none 0 0]) (Bk.new Z #[.string ⟨#[]⟩, .slice none 0 0] 24) (bk_st (by omega)))
    go_upto_region 8 with (first
      | (go_at_call 21; ((with_reducible refine (NA.out _ _ _ _ _ K1.out.p).mono ?_); rintro e w3 ⟨rfl, hP3, hu3⟩; have K2 := Lib.hid (K1.out.step hu3 hP3)))
      | (go_at_call 21; ((with_reducible refine (NB.out _ _ _ _ _ K2.out.p).mono ?_); rintro e w4 ⟨rfl, hP4, hu4⟩; have K3 := Lib.hid (K2.out.step hu4 hP4); obtain ⟨c0, c1⟩ := K3.out.q.2.two; obtain ⟨d0, d1⟩ := K3.out.q.2.free2)))
    have K4 := Lib.hid (Knr.put (o := 0) K3.out (by simp) (.string S2) (by omega) (by omega) (Nat.le_refl _) (by omega) ⟨bk_off K3.out.q.1.1 (by omega) _, bk_off K3.out.q.1.2 (by omega) _⟩ (fun _ _ hu k => ⟨k.1.upd hu (by omega), k.2.upd hu (by omega)⟩))
    revert K4
    generalize w4.setCell ⟨Z.heap.size, 0, none⟩ (.string S2) = X
    intro K4
    have K4 := Lib.hid (show Knr B g T.length cap T sB Z (fun W => (Bk w.heap.size srcZ W ∧ Bk (w.heap.size + 1) fltZ W) ∧ Bk Z.heap.size #[.string S2, .slice none 0 0] W) X from K4.out)
    go_wp2_with (go_at_call 21; ((with_reducible refine (NC.out _ _ _ _ _ K4.out.p).mono ?_); rintro e w5 ⟨rfl, hP5, hu5⟩; have K5 := Lib.hid (K4.out.step hu5 hP5)))
    have hF5 := K5.out.q.2.1
    have K6 := Lib.hid (show Knr B g T.length cap T sC Z (QS w.heap.size (w.heap.size + 1) Z.heap.size w5.heap.size S2 (.slice none 0 0) [] []) w5 from ⟨K5.out.p, ⟨K5.out.q.1, K5.out.q.2, Lst.nil w5⟩, K5.out.u, QS.st (by omega) (by omega) (by omega) (by omega)⟩)
    go_loopw [28] (fun _ wr => ∃ fu : Nat, ∃ sx : St, ∃ bs : List BlkP, ∃ css u, bs.length + fu = T.length + 1 ∧ T.length ≤ fu + sx.i ∧ (sx.f = 0 → T.length + 1 ≤ fu + sx.i) ∧ Hid (w5.heap.size ≤ wr.heap.size) ∧ Hid (Knr B g T.length cap T sx Z (QS w.heap.size (w.heap.size + 1) Z.heap.size w5.heap.size S2 u bs css) wr) ∧ Hid (rbsT T (T.length + 1) sC = bs ++ rbsT T fu sx) ∧ Hid (rbsS T (T.length + 1) sC = rbsS T fu sx)) (fun _ wr => remQ T.length B wr)
    case atStart => exact ⟨T.length + 1, sC, [], [], _, by simp, by omega, (fun _ => by omega), Lib.hid (Nat.le_refl _), Lib.hid K6.out, Lib.hid rfl, Lib.hid rfl⟩
    case round =>
      obtain ⟨fu, sx, bs, css, u, hv1, hv2, hv3, KW5, hKx, hcT, hcS⟩ := hrel
      have hsi := hKx.out.p.i
      obtain ⟨pu, nu, cu, eu⟩ := own_sl hKx.out.q.2.2.own
      subst eu
      have hrem := remQ_rdr hKx.out.p
      obtain ⟨k0, k1, k2⟩ := hKx.out.p.blk.three
      by_cases hf : sx.f = 0
      · have hfb : ((sx.f : Int) == 0) = true := by rw [beq_iff_eq]; omega
        obtain ⟨b, hb⟩ : ∃ b, isP T sx 4 [125] = b := ⟨_, rfl⟩
        have TA := Lib.hid (at_v hT hKx.out.p 4 ⟨#[125]⟩ hb)
        have hgo : goesOn T sx = !b := by unfold goesOn; rw [hb, hf]; rfl
        cases b
        · obtain ⟨fu, rfl⟩ : ∃ f, fu = f + 1 := ⟨fu - 1, by omega⟩
          obtain ⟨e1, e2⟩ := rbsT_yes (f := fu) hgo
          have hmore := rblkS_goes hT hsi
          have hmono := rblkS_mono T sx
          obtain ⟨sz, hsz⟩ : ∃ x, rblkS T sx = x := ⟨_, rfl⟩
          obtain ⟨y, hy⟩ : ∃ x, rblkT T sx = x := ⟨_, rfl⟩
          obtain ⟨SY, hSY⟩ : ∃ S : ByteArray, strV (rblkT T sx).1 = .string S := ⟨_, rfl⟩
          obtain ⟨NY, hNY⟩ : ∃ S : ByteArray, strV (rblkT T sx).2.1 = .string S := ⟨_, rfl⟩
          obtain ⟨ly, hly⟩ : ∃ l, (rblkT T sx).2.2.2 = l := ⟨_, rfl⟩
          have FV := Lib.hid (fun w' (g' : Rdr B g T.length cap T sx w') => rblock_v hT g' hSY hNY hly)
          rw [hsz, hy] at FV
          rw [hsz] at e1 e2 hmore hmono
          rw [hy] at e1
          have HE1 : Hid (rbsT T (T.length + 1) sC = (bs ++ [y]) ++ rbsT T fu sz) := Lib.hid (by rw [hcT.out, e1, List.append_assoc]; rfl)
          have HE2 : Hid (rbsS T (T.length + 1) sC = rbsS T fu sz) := Lib.hid (by rw [hcS.out, e2])
          rw [if_pos hf] at hrem
          have hv4 := hv3 hf
          have HREM : Hid (remQ T.length B wr = T.length - sx.i + 1) := Lib.hid hrem
          clear hb e1 e2 hsz hy hSY hNY hly hgo hrem
          obtain ⟨wo, rfl⟩ : ∃ x, x = wr := ⟨_, rfl⟩
          go_wp2_with (go_at_call 22; ((with_reducible refine (TA.out).mono ?_); rintro e w6 ⟨rfl, hP6, hu6⟩; have K9 := Lib.hid (hKx.out.step hu6 hP6)))
          have KD := Lib.hid K9.out.drew
          have hbD : w5.heap.size ≤ w6.drew.heap.size := Nat.le_trans KW5.out (Nat.le_trans hu6.below.size (Nat.le_of_eq rfl))
          obtain ⟨a0, a1⟩ := KD.out.q.2.1.two
          go_region_law (first
            | (refine step_append_lst erB (by rfl) (by rfl) KB.out.q.2.2 (by rfl) (by rfl) (c := [.string SY, .string NY, .slice p8 m8 c8, .int .i64 ly]) (fun j u h => alloc_cell _ _ _ _ j u (by simpa using h)) (by rfl) (by simp [Value.oneCell']) (by omega) (by omega) hle8 (y := y) HEl.out ?_; intro v9 w9 hL9 hb9 hg9 hv9; have KG := Lib.hid (QS.growR KB.out (by omega) (by omega) (by omega) (by omega) (by omega) (by omega) (Nat.le_refl _) (by omega) (by omega) (by omega) (by omega) (by omega) (by omega) hL9 hb9 rfl); obtain ⟨x0, x1⟩ := (QS.after KB.out.q hb9 (by omega)).two; obtain ⟨y0, y1⟩ := (QS.after KB.out.q hb9 (by omega)).free2; obtain ⟨p9, n9, c9, e9⟩ := own_sl hL9.own; subst e9)
            | (go_simp; go_wp2_with (go_at_call 23; ((with_reducible refine (FV.out _ KD.out.p).mono ?_); rintro e w8 ⟨p8, m8, c8, rfl, hM8, hP8, hu8⟩; have KA := Lib.hid (KD.out.step hu8 hP8); have KB := Lib.hid (KA.out.alloc (.cells #[.string SY, .string NY, .slice p8 m8 c8, .int .i64 ly] 39)); have hle8 : w5.heap.size ≤ (w8.alloc (.cells #[.string SY, .string NY, .slice p8 m8 c8, .int .i64 ly] 39)).heap.size := Nat.le_trans hbD (Nat.le_trans hu8.below.size (by simp)); have HEl := Lib.hid (fresh_elt' KD.out.q.2.2 (hM8.out.keep ((Below.refl w8.heap.size w8).alloc (Nat.le_refl _) (.cells #[.string SY, .string NY, .slice p8 m8 c8, .int .i64 ly] 39))) hbD); obtain ⟨b0, b1⟩ := KA.out.q.2.1.two; obtain ⟨c0, c1⟩ := KB.out.q.2.1.two))))
          all_goals
            go_wp2_with fail
            exact ⟨⟨fu, sz, bs ++ [y], _, _, by rw [List.length_append, List.length_singleton]; omega, by omega, (fun h0 => by rcases hmore with h1 | h1 <;> omega), Lib.hid (by have := hb9.size; simp only [World.size_setCell]; exact Nat.le_trans hle8 this), Lib.hid KG.out, HE1, HE2⟩, by rw [remQ_rdr KG.out.p, HREM.out]; have := KG.out.p.i; split <;> rcases hmore with h1 | h1 <;> omega⟩
        · have hgo : goesOn T sx = false := hgo
          obtain ⟨e1, e2⟩ := rbsT_no (f := fu) hgo
          have HE1 : Hid (rsrcT T = ((takeT T sA 3 []).2.1, bs)) := Lib.hid (by rw [HT1.out, hcT.out, e1, List.append_nil])
          obtain ⟨S5, hS5⟩ : ∃ S : ByteArray, (⟨(takeT T sx 4 [125]).2.1.toArray⟩ : ByteArray) = S := ⟨_, rfl⟩
          obtain ⟨sD, hsD⟩ : ∃ x, needS T sx 4 [125] = x := ⟨_, rfl⟩
          have NE := Lib.hid (fun w' (g' : Rdr B g T.length cap T sx w') => rtake_v hT g' 4 ⟨#[125]⟩ hS5 hsD)
          obtain ⟨S6, hS6⟩ : ∃ S : ByteArray, (⟨(takeT T sD 5 []).2.1.toArray⟩ : ByteArray) = S := ⟨_, rfl⟩
          obtain ⟨sE, hsE⟩ : ∃ x, needS T sD 5 [] = x := ⟨_, rfl⟩
          have NG := Lib.hid (fun w' (g' : Rdr B g T.length cap T sD w') => rtake_v hT g' 5 ⟨#[]⟩ hS6 hsE)
          have HE2 : Hid (rsrcS T = sE) := Lib.hid (by rw [HT2.out, hcS.out, e2, hsD, hsE])
          clear hgo hb e1 e2 hS5 hsD hS6 hsE
          obtain ⟨wo, rfl⟩ : ∃ x, x = wr := ⟨_, rfl⟩
          go_upto_region 13 with (first
            | (go_at_call 22; ((with_reducible refine (TA.out).mono ?_); rintro e w6 ⟨rfl, hP6, hu6⟩; have K9 := Lib.hid (hKx.out.step hu6 hP6)))
            | (go_at_call 21; ((with_reducible refine (NE.out _ K9.out.p).mono ?_); rintro e w7 ⟨rfl, hP7, hu7⟩; have KE := Lib.hid (K9.out.step hu7 hP7)))
            | (go_at_call 21; ((with_reducible refine (NG.out _ KE.out.p).mono ?_); rintro e w8 ⟨rfl, hP8, hu8⟩; have KF := Lib.hid (KE.out.step hu8 hP8))))
          obtain ⟨z0, z1, z2⟩ := KF.out.p.blk.three
          obtain ⟨c0, c1⟩ := KF.out.q.2.1.two
          have hR1 : Bk w.heap.size #[.string ⟨#[]⟩, .slice none 0 0] w8 := KF.out.q.1.1
          have hR2 : Bk (w.heap.size + 1) #[.int .i64 0, .int .i64 0] w8 := KF.out.q.1.2
          obtain ⟨r0, r1⟩ := hR1.two
          obtain ⟨s0, s1⟩ := hR2.two
          obtain ⟨f0, f1⟩ := hR1.free2
          obtain ⟨g0, g1⟩ := hR2.free2
          have hBel : Below w.heap.size w w8 := hBw.trans (KF.out.u.below.mono (by omega))
          by_cases hfE : sE.f = 0
          · have z2' : w8.cell? ⟨B, 2, none⟩ = some (.int .i64 0) := by rw [z2, hfE]; rfl
            clear z2
            go_wp2_with fail
            refine bodyPost_ret (v := .tuple #[.agg #[.string S2, .slice pu nu cu], .agg #[.int .i64 0, .int .i64 0]]) (by simp [results, Try.results10, go_sem, r0, r1, s0, s1]) rfl ?_
            have e3 : strV (rsrcT T).1 = .string S2 := by rw [HE1.out]; exact HTI.out
            have e4 : (rsrcT T).2 = bs := by rw [HE1.out]
            refine ⟨?_, ((((hBel.setCell (p := ⟨w.heap.size, 0, none⟩) (Nat.le_refl _) _).setCell (p := ⟨w.heap.size, 1, none⟩) (Nat.le_refl _) _).setCell (p := ⟨w.heap.size + 1, 0, none⟩) (Nat.le_succ _) _).setCell (p := ⟨w.heap.size + 1, 1, none⟩) (Nat.le_succ _) _)⟩
            show (if (rsrcS T).f = 0 then _ else _)
            rw [HE2.out, if_pos hfE]
            refine ⟨pu, nu, cu, by rw [e3], ?_⟩
            rw [e4]
            have hL := Lst.set_ (F := w.heap.size + 1) (o := 1) (x := .int .i64 0) (Lst.set_ (F := w.heap.size + 1) (o := 0) (x := .int .i64 0) (Lst.set_ (F := w.heap.size) (o := 1) (x := .slice pu nu cu) (Lst.set_ (F := w.heap.size) (o := 0) (x := .string S2) KF.out.q.2.2 (by omega) (by omega)) (by omega) (by omega)) (by omega) (by omega)) (by omega) (by omega)
            exact Made.mono (Lst.made hL (Nat.le_refl _) (Nat.le_refl _)) (by omega)
          · have hfn : ((sE.f : Int) != 0) = true := by rw [bne_iff_ne]; omega
            have hn1 : ¬ B = w.heap.size := by omega
            have hn2 : ¬ w.heap.size = B := by omega
            have hn3 : ¬ B = w.heap.size + 1 := by omega
            have hn4 : ¬ w.heap.size + 1 = B := by omega
            have hDr := (Below.refl w8.heap.size w8).drew
            obtain ⟨m0, m1⟩ := (hR1.keep hDr).two
            obtain ⟨o0, o1⟩ := (hR2.keep hDr).two
            obtain ⟨p0, p1⟩ := (hR1.keep hDr).free2
            obtain ⟨q0, q1⟩ := (hR2.keep hDr).free2
            have y2 := cell_keep hDr z2
            go_wp2_with fail
            go_region
            all_goals
              go_wp2_with fail
              refine bodyPost_ret (v := .tuple #[.agg #[.string ⟨#[]⟩, .slice none 0 0], .agg #[.int .i64 1, .int .i64 sE.f]]) (by simp [results, Try.results10, go_sem, r0, r1, s0, s1]) rfl ?_
              refine ⟨?_, ((((hBel.setCell (p := ⟨w.heap.size, 0, none⟩) (Nat.le_refl _) _).setCell (p := ⟨w.heap.size, 1, none⟩) (Nat.le_refl _) _).setCell (p := ⟨w.heap.size + 1, 0, none⟩) (Nat.le_succ _) _).setCell (p := ⟨w.heap.size + 1, 1, none⟩) (Nat.le_succ _) _).drew⟩
              show (if (rsrcS T).f = 0 then _ else _)
              rw [HE2.out, if_neg hfE]
              rfl
      · have hfb : ((sx.f : Int) == 0) = false := by rw [beq_eq_false_iff_ne]; omega
        have hgo : goesOn T sx = false := by unfold goesOn; rw [show (sx.f == 0) = false by rw [beq_eq_false_iff_ne]; exact hf]; rfl
        have K9 := Lib.hid hKx.out
        obtain ⟨e1, e2⟩ := rbsT_no (f := fu) hgo
        have HE1 : Hid (rsrcT T = ((takeT T sA 3 []).2.1, bs)) := Lib.hid (by rw [HT1.out, hcT.out, e1, List.append_nil])
        obtain ⟨S5, hS5⟩ : ∃ S : ByteArray, (⟨(takeT T sx 4 [125]).2.1.toArray⟩ : ByteArray) = S := ⟨_, rfl⟩
        obtain ⟨sD, hsD⟩ : ∃ x, needS T sx 4 [125] = x := ⟨_, rfl⟩
        have NE := Lib.hid (fun w' (g' : Rdr B g T.length cap T sx w') => rtake_v hT g' 4 ⟨#[125]⟩ hS5 hsD)
        obtain ⟨S6, hS6⟩ : ∃ S : ByteArray, (⟨(takeT T sD 5 []).2.1.toArray⟩ : ByteArray) = S := ⟨_, rfl⟩
        obtain ⟨sE, hsE⟩ : ∃ x, needS T sD 5 [] = x := ⟨_, rfl⟩
        have NG := Lib.hid (fun w' (g' : Rdr B g T.length cap T sD w') => rtake_v hT g' 5 ⟨#[]⟩ hS6 hsE)
        have HE2 : Hid (rsrcS T = sE) := Lib.hid (by rw [HT2.out, hcS.out, e2, hsD, hsE])
        clear hgo e1 e2 hS5 hsD hS6 hsE
        obtain ⟨wo, rfl⟩ : ∃ x, x = wr := ⟨_, rfl⟩
        go_upto_region 13 with (first
          | (go_at_call 21; ((with_reducible refine (NE.out _ K9.out.p).mono ?_); rintro e w7 ⟨rfl, hP7, hu7⟩; have KE := Lib.hid (K9.out.step hu7 hP7)))
          | (go_at_call 21; ((with_reducible refine (NG.out _ KE.out.p).mono ?_); rintro e w8 ⟨rfl, hP8, hu8⟩; have KF := Lib.hid (KE.out.step hu8 hP8))))
        obtain ⟨z0, z1, z2⟩ := KF.out.p.blk.three
        obtain ⟨c0, c1⟩ := KF.out.q.2.1.two
        have hR1 : Bk w.heap.size #[.string ⟨#[]⟩, .slice none 0 0] w8 := KF.out.q.1.1
        have hR2 : Bk (w.heap.size + 1) #[.int .i64 0, .int .i64 0] w8 := KF.out.q.1.2
        obtain ⟨r0, r1⟩ := hR1.two
        obtain ⟨s0, s1⟩ := hR2.two
        obtain ⟨f0, f1⟩ := hR1.free2
        obtain ⟨g0, g1⟩ := hR2.free2
        have hBel : Below w.heap.size w w8 := hBw.trans (KF.out.u.below.mono (by omega))
        by_cases hfE : sE.f = 0
        · have z2' : w8.cell? ⟨B, 2, none⟩ = some (.int .i64 0) := by rw [z2, hfE]; rfl
          clear z2
          go_wp2_with fail
          refine bodyPost_ret (v := .tuple #[.agg #[.string S2, .slice pu nu cu], .agg #[.int .i64 0, .int .i64 0]]) (by simp [results, Try.results10, go_sem, r0, r1, s0, s1]) rfl ?_
          have e3 : strV (rsrcT T).1 = .string S2 := by rw [HE1.out]; exact HTI.out
          have e4 : (rsrcT T).2 = bs := by rw [HE1.out]
          refine ⟨?_, ((((hBel.setCell (p := ⟨w.heap.size, 0, none⟩) (Nat.le_refl _) _).setCell (p := ⟨w.heap.size, 1, none⟩) (Nat.le_refl _) _).setCell (p := ⟨w.heap.size + 1, 0, none⟩) (Nat.le_succ _) _).setCell (p := ⟨w.heap.size + 1, 1, none⟩) (Nat.le_succ _) _)⟩
          show (if (rsrcS T).f = 0 then _ else _)
          rw [HE2.out, if_pos hfE]
          refine ⟨pu, nu, cu, by rw [e3], ?_⟩
          rw [e4]
          have hL := Lst.set_ (F := w.heap.size + 1) (o := 1) (x := .int .i64 0) (Lst.set_ (F := w.heap.size + 1) (o := 0) (x := .int .i64 0) (Lst.set_ (F := w.heap.size) (o := 1) (x := .slice pu nu cu) (Lst.set_ (F := w.heap.size) (o := 0) (x := .string S2) KF.out.q.2.2 (by omega) (by omega)) (by omega) (by omega)) (by omega) (by omega)) (by omega) (by omega)
          exact Made.mono (Lst.made hL (Nat.le_refl _) (Nat.le_refl _)) (by omega)
        · have hfn : ((sE.f : Int) != 0) = true := by rw [bne_iff_ne]; omega
          have hn1 : ¬ B = w.heap.size := by omega
          have hn2 : ¬ w.heap.size = B := by omega
          have hn3 : ¬ B = w.heap.size + 1 := by omega
          have hn4 : ¬ w.heap.size + 1 = B := by omega
          have hDr := (Below.refl w8.heap.size w8).drew
          obtain ⟨m0, m1⟩ := (hR1.keep hDr).two
          obtain ⟨o0, o1⟩ := (hR2.keep hDr).two
          obtain ⟨p0, p1⟩ := (hR1.keep hDr).free2
          obtain ⟨q0, q1⟩ := (hR2.keep hDr).free2
          have y2 := cell_keep hDr z2
          go_wp2_with fail
          go_region
          all_goals
            go_wp2_with fail
            refine bodyPost_ret (v := .tuple #[.agg #[.string ⟨#[]⟩, .slice none 0 0], .agg #[.int .i64 1, .int .i64 sE.f]]) (by simp [results, Try.results10, go_sem, r0, r1, s0, s1]) rfl ?_
            refine ⟨?_, ((((hBel.setCell (p := ⟨w.heap.size, 0, none⟩) (Nat.le_refl _) _).setCell (p := ⟨w.heap.size, 1, none⟩) (Nat.le_refl _) _).setCell (p := ⟨w.heap.size + 1, 0, none⟩) (Nat.le_succ _) _).setCell (p := ⟨w.heap.size + 1, 1, none⟩) (Nat.le_succ _) _).drew⟩
            show (if (rsrcS T).f = 0 then _ else _)
            rw [HE2.out, if_neg hfE]
            rfl

end Go.Proofs.Ythdcgplocdehjaa
