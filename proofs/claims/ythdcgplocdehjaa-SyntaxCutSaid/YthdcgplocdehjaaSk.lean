/- The parser: Parse, its walk. -/
import Derived.Test.YthdcgplocdehjaaZF
namespace Go.Proofs.Ythdcgplocdehjaa
open Go.RowKit Go.Proofs.Kit

def srcNo : Value := .agg #[.string ⟨#[]⟩, .slice none 0 0]
/-- What Parse hands back. -/
def PRet (B : Nat) (x : Except Nat (List Tok)) (e : Ending) (w' : World) : Prop := match x with
  | .error n => e = .returned (.tuple #[srcNo, .agg #[.int .i64 1, .int .i64 n]])
  | .ok T => if (srcS T).f = 0 then ∃ p m c, e = .returned (.tuple #[.agg #[strV (srcT T).1, .slice p m c], .agg #[.int .i64 0, .int .i64 0]]) ∧ Made B (fun W => SliceOf blkR 4 W (.slice p m c) (srcT T).2) w'
    else e = .returned (.tuple #[srcNo, .agg #[.int .i64 1, .int .i64 (srcS T).f]])

set_option maxRecDepth 100000 in
set_option maxHeartbeats 8000000 in
theorem parse_c (s : ByteArray) (w : World) (hs : s.size ≤ 20000) :
    Calls Try.prog 9 #[.string s] w fun e w' => PRet w.heap.size (lexL (s.size + 1) 1 s.data.toList) e w' ∧ Below w.heap.size w w' := by
  have AL := Lib.hid (fun w => all_any s w hs)
  have hBd0 : Below w.heap.size w ((w.alloc (.cells #[.string ⟨#[]⟩, .slice none 0 0] 24)).alloc (.cells #[.int .i64 0, .int .i64 0] 27)) := ((Below.refl _ _).alloc (Nat.le_refl _) _).alloc (by simp) _
  have R10 := (Bk.new w #[.string ⟨#[]⟩, .slice none 0 0] 24).keep ((Below.refl _ _).alloc (Nat.le_refl _) (.cells #[.int .i64 0, .int .i64 0] 27))
  have R20 : Bk (w.heap.size + 1) #[.int .i64 0, .int .i64 0] ((w.alloc (.cells #[.string ⟨#[]⟩, .slice none 0 0] 24)).alloc (.cells #[.int .i64 0, .int .i64 0] 27)) := Bk.newAt _ _ _ (by simp)
  obtain ⟨W, hW⟩ : ∃ W, (w.alloc (.cells #[.string ⟨#[]⟩, .slice none 0 0] 24)).alloc (.cells #[.int .i64 0, .int .i64 0] 27) = W := ⟨_, rfl⟩
  rw [hW] at hBd0 R10 R20
  have HW := Lib.hid hW
  have R1 := Lib.hid R10
  have R2 := Lib.hid R20
  clear hW R10 R20
  have hsl : s.data.toList.length ≤ 20000 := by rw [← Lib.size_eq]; exact hs
  cases hx : lexL (s.size + 1) 1 s.data.toList with
  | error n0 =>
    have HX := Lib.hid hx
    rw [hx] at AL
    clear hx
    have hE : PRet w.heap.size (.error n0) = fun e _ => e = .returned (.tuple #[srcNo, .agg #[.int .i64 1, .int .i64 n0]]) := rfl
    rw [hE]
    clear hE
    go_enter Try.func9, Try.ntmps9
    go_upto_region 1 with fail
    rw [HW.out]
    go_wp2_with (go_at_call 17; ((with_reducible refine (AL.out _).mono ?_); rintro e w1 ⟨hr, hb1⟩; have e1 : e = .returned (.tuple #[.slice none 0 0, .agg #[.int .i64 1, .int .i64 n0]]) := hr; subst e1; clear hr; have hA1 := (Below.refl w1.heap.size w1).alloc (Nat.le_refl _) (.cells #[.int .i64 1, .int .i64 n0] 27); have R1a := (R1.out.keep hb1).keep hA1; have R2a := (R2.out.keep hb1).keep hA1; have hs1 := hb1.size; have hr1 := R1.out.1; have hr2 := R2.out.1; have hn1 : ¬ w1.heap.size = w.heap.size := (by omega); have hn2 : ¬ w.heap.size = w1.heap.size := (by omega); have hn3 : ¬ w1.heap.size = w.heap.size + 1 := (by omega); have hn4 : ¬ w.heap.size + 1 = w1.heap.size := (by omega); have hB1 := (bel3 hBd0 hb1).trans (hA1.mono (by omega)); obtain ⟨a0, a1⟩ := (R1a.keep (Below.refl _ _).drew).two; obtain ⟨b0, b1⟩ := (R2a.keep (Below.refl _ _).drew).two; obtain ⟨f0, f1⟩ := (R1a.keep (Below.refl _ _).drew).free2; obtain ⟨g0, g1⟩ := (R2a.keep (Below.refl _ _).drew).free2))
    obtain ⟨t0, t1⟩ := ((Bk.new w1 #[.int .i64 1, .int .i64 n0] 27).keep (Below.refl _ _).drew).two
    obtain ⟨c0, c1⟩ := R1a.two
    obtain ⟨d0, d1⟩ := R2a.two
    obtain ⟨h0, h1⟩ := R1a.free2
    obtain ⟨i0, i1⟩ := R2a.free2
    go_region
    all_goals
      go_wp2_with fail
      refine bodyPost_ret (v := .tuple #[.agg #[.string ⟨#[]⟩, .slice none 0 0], .agg #[.int .i64 1, .int .i64 n0]]) (by simp [results, Try.results9, go_sem, c0, c1, d0, d1]) rfl ?_
      exact ⟨rfl, ((((hB1.setCell (p := ⟨w.heap.size, 0, none⟩) (Nat.le_refl _) _).setCell (p := ⟨w.heap.size, 1, none⟩) (Nat.le_refl _) _).setCell (p := ⟨w.heap.size + 1, 0, none⟩) (Nat.le_succ _) _).setCell (p := ⟨w.heap.size + 1, 1, none⟩) (Nat.le_succ _) _).drew⟩
  | ok T =>
    have hT : TOk T := (lexL_ok _ _ _ _ hx).tok hsl
    rw [hx] at AL
    clear hx
    have hTn := hT.num
    -- the parses
    obtain ⟨S1, hS1⟩ : ∃ S : ByteArray, (⟨(takeT T ⟨0, 0⟩ 1 elW).2.1.toArray⟩ : ByteArray) = S := ⟨_, rfl⟩
    have NA := Lib.hid (fun (B g n cap : Nat) (w' : World) (g' : Prs B g n cap T ⟨0, 0⟩ w') => need_v hT g' 1 ⟨#[101, 108, 101, 99, 116, 105, 111, 110]⟩ hS1)
    rw [show (⟨#[101, 108, 101, 99, 116, 105, 111, 110]⟩ : ByteArray).data.toList = elW from rfl] at NA
    obtain ⟨sA, hsA⟩ : ∃ x, needS T ⟨0, 0⟩ 1 elW = x := ⟨_, rfl⟩
    rw [hsA] at NA
    obtain ⟨S2, hS2⟩ : ∃ S : ByteArray, (⟨(takeT T sA 3 []).2.1.toArray⟩ : ByteArray) = S := ⟨_, rfl⟩
    have NB := Lib.hid (fun (B g n cap : Nat) (w' : World) (g' : Prs B g n cap T sA w') => need_v hT g' 3 ⟨#[]⟩ hS2)
    rw [show (⟨#[]⟩ : ByteArray).data.toList = [] from rfl] at NB
    obtain ⟨sB, hsB⟩ : ∃ x, needS T sA 3 [] = x := ⟨_, rfl⟩
    rw [hsB] at NB
    obtain ⟨S3, hS3⟩ : ∃ S : ByteArray, (⟨(takeT T sB 4 [123]).2.1.toArray⟩ : ByteArray) = S := ⟨_, rfl⟩
    have NC := Lib.hid (fun (B g n cap : Nat) (w' : World) (g' : Prs B g n cap T sB w') => need_v hT g' 4 ⟨#[123]⟩ hS3)
    rw [show (⟨#[123]⟩ : ByteArray).data.toList = [123] from rfl] at NC
    obtain ⟨sC, hsC⟩ : ∃ x, needS T sB 4 [123] = x := ⟨_, rfl⟩
    rw [hsC] at NC
    have HT1 : Hid (srcT T = ((takeT T sA 3 []).2.1, bsT T T.length sC)) := Lib.hid (by unfold srcT srcC srcA; rw [hsA, hsB, hsC])
    have HT2 : Hid (srcS T = needS T (needS T (bsS T T.length sC) 4 [125]) 5 []) := Lib.hid (by unfold srcS srcC srcA; rw [hsA, hsB, hsC])
    have HTI : Hid (strV (takeT T sA 3 []).2.1 = .string S2) := Lib.hid (by unfold strV; rw [hS2])
    clear hS1 hsA hS2 hsB hS3 hsC
    go_enter Try.func9, Try.ntmps9
    go_upto_region 1 with fail
    rw [HW.out]
    go_upto_region 5 with (go_at_call 17; ((with_reducible refine (AL.out _).mono ?_); rintro e w1 ⟨hr, hb1⟩; obtain ⟨v, rfl, ho⟩ := (show ∃ v, e = .returned (.tuple #[v, .agg #[.int .i64 0, .int .i64 0]]) ∧ w1.ownsRow W.heap.size 47 3 v T.length (T.flatMap tokCells) from hr); obtain ⟨g, cap, rfl, hg1, hg2, HPS⟩ := Prs.start (B := w1.heap.size + 1) hT ho; have HPS := Lib.hid HPS; clear hr ho))
    have hs1 := hb1.size
    have hr1 := R1.out.1
    have hr2 := R2.out.1
    have hA1 := (Below.refl w1.heap.size w1).alloc (Nat.le_refl _) (.cells #[.int .i64 0, .int .i64 0] 27)
    have hZb : Below w1.heap.size w1 ((w1.alloc (.cells #[.int .i64 0, .int .i64 0] 27)).alloc (.cells #[.slice (some ⟨g, 0, none⟩) T.length cap, .int .i64 0, .int .i64 0] 51)) := hA1.alloc (by simp) _
    have hsz : ((w1.alloc (.cells #[.int .i64 0, .int .i64 0] 27)).alloc (.cells #[.slice (some ⟨g, 0, none⟩) T.length cap, .int .i64 0, .int .i64 0] 51)).heap.size = w1.heap.size + 2 := by simp
    have KZ : Kn (w1.heap.size + 1) g T.length cap T ⟨0, 0⟩ ((w1.alloc (.cells #[.int .i64 0, .int .i64 0] 27)).alloc (.cells #[.slice (some ⟨g, 0, none⟩) T.length cap, .int .i64 0, .int .i64 0] 51)) (fun W => Bk w.heap.size srcZ W ∧ Bk (w.heap.size + 1) fltZ W) ((w1.alloc (.cells #[.int .i64 0, .int .i64 0] 27)).alloc (.cells #[.slice (some ⟨g, 0, none⟩) T.length cap, .int .i64 0, .int .i64 0] 51)) :=
      ⟨HPS.out _ hZb (Bk.newAt _ _ _ (by simp)) (by omega), ⟨(R1.out.keep hb1).keep hZb, (R2.out.keep hb1).keep hZb⟩, Upd.refl _ _, fun _ _ hu k => ⟨k.1.upd hu (by omega), k.2.upd hu (by omega)⟩⟩
    have hBw : Below w.heap.size w ((w1.alloc (.cells #[.int .i64 0, .int .i64 0] 27)).alloc (.cells #[.slice (some ⟨g, 0, none⟩) T.length cap, .int .i64 0, .int .i64 0] 51)) := (bel3 hBd0 hb1).trans (hZb.mono (by omega))
    have hgr : w.heap.size + 1 < g := by omega
    have hq1 : w.heap.size + 1 < w1.heap.size + 1 := by omega
    have hq2 : g < w1.heap.size + 1 := by omega
    have hq3 : w1.heap.size + 1 < ((w1.alloc (.cells #[.int .i64 0, .int .i64 0] 27)).alloc (.cells #[.slice (some ⟨g, 0, none⟩) T.length cap, .int .i64 0, .int .i64 0] 51)).heap.size := by omega
    clear hsz hA1 hZb HPS
    revert KZ hBw hq1 hq2 hq3
    generalize (w1.alloc (.cells #[.int .i64 0, .int .i64 0] 27)).alloc (.cells #[.slice (some ⟨g, 0, none⟩) T.length cap, .int .i64 0, .int .i64 0] 51) = Z
    generalize w1.heap.size + 1 = B
    intro KZ hBw hq1 hq2 hq3
    have K0 := Lib.hid KZ
    clear KZ
    have hfd := fld1
    obtain ⟨ka, la, NA1⟩ := NA.out _ _ _ _ _ K0.out.p
    have NA1 := Lib.hid NA1
    go_upto_region 6 with (go_at_call 18; ((with_reducible refine (NA1.out).mono ?_); rintro e w3 ⟨rfl, hP3, hu3⟩; have K1 := Lib.hid (K0.out.step hu3 hP3)))
    obtain ⟨kb, lb, NB1⟩ := NB.out _ _ _ _ _ K1.out.p
    have NB1 := Lib.hid NB1
    go_upto_region 7 with (go_at_call 18; ((with_reducible refine (NB1.out).mono ?_); rintro e w4 ⟨rfl, hP4, hu4⟩; have K2 := Lib.hid (K1.out.step hu4 hP4)))
    have hw4 := K2.out.u.below.size
    have K3 := Lib.hid ((K2.out.alloc (.cells #[.string S2, .slice none 0 0] 24)).with_ (R := Bk w4.heap.size #[.string S2, .slice none 0 0]) (Bk.new w4 #[.string S2, .slice none 0 0] 24) (bk_st (by omega)))
    obtain ⟨kc, lc, NC1⟩ := NC.out _ _ _ _ _ K3.out.p
    have NC1 := Lib.hid NC1
    go_wp2_with (go_at_call 18; ((with_reducible refine (NC1.out).mono ?_); rintro e w5 ⟨rfl, hP5, hu5⟩; have K4 := Lib.hid (K3.out.step hu5 hP5)))
    have hF5 := K4.out.q.2.1
    have K5 := Lib.hid (show Kn B g T.length cap T sC Z (QS w.heap.size (w.heap.size + 1) w4.heap.size w5.heap.size S2 (.slice none 0 0) [] []) w5 from ⟨K4.out.p, ⟨K4.out.q.1, K4.out.q.2, Lst.nil w5⟩, K4.out.u, QS.st (by omega) (by omega) (by omega) (by omega)⟩)
    go_loopw [30] (fun _ wr => ∃ fu : Nat, ∃ sx : St, ∃ bs : List BlkP, ∃ css u, bs.length + fu = T.length ∧ T.length ≤ fu + sx.i ∧ Hid (w5.heap.size ≤ wr.heap.size) ∧ Hid (Kn B g T.length cap T sx Z (QS w.heap.size (w.heap.size + 1) w4.heap.size w5.heap.size S2 u bs css) wr) ∧ Hid (bsT T T.length sC = bs ++ bsT T fu sx) ∧ Hid (bsS T T.length sC = bsS T fu sx)) (fun _ wr => remN B wr)
    case atStart => exact ⟨T.length, sC, [], [], _, by simp, by omega, Lib.hid (Nat.le_refl _), Lib.hid K5.out, Lib.hid rfl, Lib.hid rfl⟩
    case round =>
      obtain ⟨fu, sx, bs, css, u, hv1, hv2, KW5, hKx, hcT, hcS⟩ := hrel
      have hsi := hKx.out.p.i
      obtain ⟨pu, nu, cu, eu⟩ := own_sl hKx.out.q.2.2.own
      subst eu
      obtain ⟨b, hb⟩ : ∃ b, isP T sx 1 [] = b := ⟨_, rfl⟩
      have IS := is_c hKx.out.p 1 ⟨#[]⟩
      rw [Lib.toList_data, show (⟨#[]⟩ : ByteArray).data.toList = [] from rfl, hb] at IS
      have IS := Lib.hid IS
      have hBr := hKx.out.le
      cases b
      · obtain ⟨e1, e2⟩ := bsT_no (f := fu) hb
        have HE1 : Hid (srcT T = ((takeT T sA 3 []).2.1, bs)) := Lib.hid (by rw [HT1.out, hcT.out, e1, List.append_nil])
        obtain ⟨S5, hS5⟩ : ∃ S : ByteArray, (⟨(takeT T sx 4 [125]).2.1.toArray⟩ : ByteArray) = S := ⟨_, rfl⟩
        have NE := Lib.hid (fun w' (g' : Prs B g T.length cap T sx w') => need_v hT g' 4 ⟨#[125]⟩ hS5)
        rw [show (⟨#[125]⟩ : ByteArray).data.toList = [125] from rfl] at NE
        obtain ⟨sD, hsD⟩ : ∃ x, needS T sx 4 [125] = x := ⟨_, rfl⟩
        rw [hsD] at NE
        obtain ⟨S6, hS6⟩ : ∃ S : ByteArray, (⟨(takeT T sD 5 []).2.1.toArray⟩ : ByteArray) = S := ⟨_, rfl⟩
        have NG := Lib.hid (fun w' (g' : Prs B g T.length cap T sD w') => need_v hT g' 5 ⟨#[]⟩ hS6)
        rw [show (⟨#[]⟩ : ByteArray).data.toList = [] from rfl] at NG
        obtain ⟨sE, hsE⟩ : ∃ x, needS T sD 5 [] = x := ⟨_, rfl⟩
        rw [hsE] at NG
        have HE2 : Hid (srcS T = sE) := Lib.hid (by rw [HT2.out, hcS.out, e2, hsD, hsE])
        clear hb e1 e2 hS5 hsD hS6 hsE
        obtain ⟨wo, rfl⟩ : ∃ x, x = wr := ⟨_, rfl⟩
        go_wp2_with (go_at_call 19; ((with_reducible refine (IS.out).mono ?_); rintro e w6 ⟨rfl, hb6⟩; have K9 := Lib.hid (hKx.out.step (Upd.of hb6 hBr) (hKx.out.p.keep hb6))))
        obtain ⟨k5, l5, NE1⟩ := NE.out _ K9.out.p
        have NE1 := Lib.hid NE1
        go_upto_region 11 with (go_at_call 18; ((with_reducible refine (NE1.out).mono ?_); rintro e w7 ⟨rfl, hP7, hu7⟩; have KE := Lib.hid (K9.out.step hu7 hP7)))
        obtain ⟨k6, l6, NG1⟩ := NG.out _ KE.out.p
        have NG1 := Lib.hid NG1
        go_upto_region 12 with (go_at_call 18; ((with_reducible refine (NG1.out).mono ?_); rintro e w8 ⟨rfl, hP8, hu8⟩; have KF := Lib.hid (KE.out.step hu8 hP8)))
        obtain ⟨z0, z1, z2⟩ := KF.out.p.blk.three
        obtain ⟨c0, c1⟩ := KF.out.q.2.1.two
        have hR1 : Bk w.heap.size #[.string ⟨#[]⟩, .slice none 0 0] w8 := KF.out.q.1.1
        have hR2 : Bk (w.heap.size + 1) #[.int .i64 0, .int .i64 0] w8 := KF.out.q.1.2
        obtain ⟨r0, r1⟩ := hR1.two
        obtain ⟨s0, s1⟩ := hR2.two
        obtain ⟨f0, f1⟩ := hR1.free2
        obtain ⟨g0, g1⟩ := hR2.free2
        have hBel : Below w.heap.size w w8 := hBw.trans (KF.out.u.below.mono (by omega))
        by_cases hf : sE.f = 0
        · have z1' : w8.cell? ⟨B, 1, none⟩ = some (.int .i64 0) := by rw [z1]; unfold errV; rw [if_pos hf]
          clear z1
          go_wp2_with fail
          refine bodyPost_ret (v := .tuple #[.agg #[.string S2, .slice pu nu cu], .agg #[.int .i64 0, .int .i64 0]]) (by simp [results, Try.results9, go_sem, r0, r1, s0, s1]) rfl ?_
          have e3 : strV (srcT T).1 = .string S2 := by rw [HE1.out]; exact HTI.out
          have e4 : (srcT T).2 = bs := by rw [HE1.out]
          refine ⟨?_, ((((hBel.setCell (p := ⟨w.heap.size, 0, none⟩) (Nat.le_refl _) _).setCell (p := ⟨w.heap.size, 1, none⟩) (Nat.le_refl _) _).setCell (p := ⟨w.heap.size + 1, 0, none⟩) (Nat.le_succ _) _).setCell (p := ⟨w.heap.size + 1, 1, none⟩) (Nat.le_succ _) _)⟩
          show (if (srcS T).f = 0 then _ else _)
          rw [HE2.out, if_pos hf]
          refine ⟨pu, nu, cu, by rw [e3], ?_⟩
          rw [e4]
          have hL := Lst.set_ (F := w.heap.size + 1) (o := 1) (x := .int .i64 0) (Lst.set_ (F := w.heap.size + 1) (o := 0) (x := .int .i64 0) (Lst.set_ (F := w.heap.size) (o := 1) (x := .slice pu nu cu) (Lst.set_ (F := w.heap.size) (o := 0) (x := .string S2) KF.out.q.2.2 (by omega) (by omega)) (by omega) (by omega)) (by omega) (by omega)) (by omega) (by omega)
          exact Made.mono (Lst.made hL (Nat.le_refl _) (Nat.le_refl _)) (by omega)
        · have z1' : w8.cell? ⟨B, 1, none⟩ = some (.int .i64 1) := by rw [z1]; unfold errV; rw [if_neg hf]
          clear z1
          have hn1 : ¬ B = w.heap.size := by omega
          have hn2 : ¬ w.heap.size = B := by omega
          have hn3 : ¬ B = w.heap.size + 1 := by omega
          have hn4 : ¬ w.heap.size + 1 = B := by omega
          have hDr := (Below.refl w8.heap.size w8).drew
          obtain ⟨m0, m1⟩ := (hR1.keep hDr).two
          obtain ⟨o0, o1⟩ := (hR2.keep hDr).two
          obtain ⟨p0, p1⟩ := (hR1.keep hDr).free2
          obtain ⟨q0, q1⟩ := (hR2.keep hDr).free2
          have y1 := cell_keep hDr z1'
          have y2 := cell_keep hDr z2
          go_wp2_with fail
          go_region
          all_goals
            go_wp2_with fail
            refine bodyPost_ret (v := .tuple #[.agg #[.string ⟨#[]⟩, .slice none 0 0], .agg #[.int .i64 1, .int .i64 sE.f]]) (by simp [results, Try.results9, go_sem, r0, r1, s0, s1]) rfl ?_
            refine ⟨?_, ((((hBel.setCell (p := ⟨w.heap.size, 0, none⟩) (Nat.le_refl _) _).setCell (p := ⟨w.heap.size, 1, none⟩) (Nat.le_refl _) _).setCell (p := ⟨w.heap.size + 1, 0, none⟩) (Nat.le_succ _) _).setCell (p := ⟨w.heap.size + 1, 1, none⟩) (Nat.le_succ _) _).drew⟩
            show (if (srcS T).f = 0 then _ else _)
            rw [HE2.out, if_neg hf]
            rfl
      · obtain ⟨fu, rfl⟩ : ∃ f, fu = f + 1 := ⟨fu - 1, by omega⟩
        obtain ⟨e1, e2⟩ := bsT_yes (f := fu) hb
        have hmore := blkS_more hb
        obtain ⟨sz, hsz⟩ : ∃ x, blkS T sx = x := ⟨_, rfl⟩
        obtain ⟨y, hy⟩ : ∃ x, blkT T sx = x := ⟨_, rfl⟩
        obtain ⟨SY, hSY⟩ : ∃ S : ByteArray, strV (blkT T sx).1 = .string S := ⟨_, rfl⟩
        obtain ⟨NY, hNY⟩ : ∃ S : ByteArray, strV (blkT T sx).2.1 = .string S := ⟨_, rfl⟩
        obtain ⟨ly, hly⟩ : ∃ l, (blkT T sx).2.2.2 = l := ⟨_, rfl⟩
        have FV := Lib.hid (fun w' (g' : Prs B g T.length cap T sx w') => block_v hT g' hSY hNY hly)
        rw [hsz, hy] at FV
        rw [hsz] at e1 e2 hmore
        rw [hy] at e1
        have HE1 : Hid (bsT T T.length sC = (bs ++ [y]) ++ bsT T fu sz) := Lib.hid (by rw [hcT.out, e1, List.append_assoc]; rfl)
        have HE2 : Hid (bsS T T.length sC = bsS T fu sz) := Lib.hid (by rw [hcS.out, e2])
        have hrem := remN_prs hKx.out.p
        clear hb e1 e2 hsz hy hSY hNY hly
        obtain ⟨wo, rfl⟩ : ∃ x, x = wr := ⟨_, rfl⟩
        go_wp2_with (go_at_call 19; ((with_reducible refine (IS.out).mono ?_); rintro e w6 ⟨rfl, hb6⟩; have K9 := Lib.hid (hKx.out.step (Upd.of hb6 hBr) (hKx.out.p.keep hb6))))
        have KD := Lib.hid K9.out.drew
        have hbD : w5.heap.size ≤ w6.drew.heap.size := Nat.le_trans KW5.out (Nat.le_trans hb6.size (Nat.le_of_eq rfl))
        obtain ⟨a0, a1⟩ := KD.out.q.2.1.two
        go_region_law (first
          | (refine step_append_lst erB (by rfl) (by rfl) KB.out.q.2.2 (by rfl) (by rfl) (c := [.string SY, .string NY, .slice p8 m8 c8, .int .i64 ly]) (fun j u h => alloc_cell _ _ _ _ j u (by simpa using h)) (by rfl) (by simp [Value.oneCell']) (by omega) (by omega) hle8 (y := y) HEl.out ?_; intro v9 w9 hL9 hb9 hg9 hv9; have KG := Lib.hid (QS.grow KB.out (by omega) (by omega) (by omega) (by omega) (by omega) (by omega) hw4 (by omega) (by omega) (by omega) (by omega) (by omega) (by omega) hL9 hb9 rfl); obtain ⟨x0, x1⟩ := (QS.after KB.out.q hb9 (by omega)).two; obtain ⟨y0, y1⟩ := (QS.after KB.out.q hb9 (by omega)).free2; obtain ⟨p9, n9, c9, e9⟩ := own_sl hL9.own; subst e9)
          | (go_simp; go_wp2_with (go_at_call 20; ((with_reducible refine (FV.out _ KD.out.p).mono ?_); rintro e w8 ⟨p8, m8, c8, rfl, hM8, hP8, hu8⟩; have KA := Lib.hid (KD.out.step hu8 hP8); have KB := Lib.hid (KA.out.alloc (.cells #[.string SY, .string NY, .slice p8 m8 c8, .int .i64 ly] 39)); have hle8 : w5.heap.size ≤ (w8.alloc (.cells #[.string SY, .string NY, .slice p8 m8 c8, .int .i64 ly] 39)).heap.size := Nat.le_trans hbD (Nat.le_trans hu8.below.size (by simp)); have HEl := Lib.hid (fresh_elt' KD.out.q.2.2 (hM8.out.keep ((Below.refl w8.heap.size w8).alloc (Nat.le_refl _) (.cells #[.string SY, .string NY, .slice p8 m8 c8, .int .i64 ly] 39))) hbD); obtain ⟨b0, b1⟩ := KA.out.q.2.1.two; obtain ⟨c0, c1⟩ := KB.out.q.2.1.two))))
        all_goals
          go_wp2_with fail
          exact ⟨⟨fu, sz, bs ++ [y], _, _, by rw [List.length_append, List.length_singleton]; omega, by omega, Lib.hid (by have := hb9.size; simp only [World.size_setCell]; exact Nat.le_trans hle8 this), Lib.hid KG.out, HE1, HE2⟩, by rw [remN_prs KG.out.p, hrem]; have := KG.out.p.i; omega⟩

end Go.Proofs.Ythdcgplocdehjaa
