/- The statement IrvCounts: for every input the law returns true and its arguments read as before. No condition. -/
import Derived.Test.YtbnhgmikegdppaaGreatQQ
import Derived.WalkKit
import Derived.ProofKit
import Derived.OpenShut
import Derived.ShutString
import Derived.ChangeOld
import Derived.Below
/- The walk of IrvCounts. -/
namespace Go.Proofs.YtbnhgmikegdppaaGreat
open Go.RowKit Go.Proofs.Kit Go.Proofs.Nums

/-- A transcript that reads. -/
def TrsAt (w : World) (m s c : Int) (R : List Rnd) (l : List Int) (v : Value) : Prop := ∃ pr nr cr pw nw cw, v = .agg #[.int .i64 m, .int .i64 s, .int .i64 0, .int .i64 c, .slice pr nr cr, .slice pw nw cw] ∧ RndsAt w (.slice pr nr cr) R ∧ IntsAt w (.slice pw nw cw) l
/-- irv.Count and the reference's Irv hand back the same transcript, or the same error. -/
theorem trs_both {C : ConP} {vg vl : Value} {gs : List Grp} {lots : List Int} {w : World} (hn : C.n ≤ 1000) (hg : PileAt w vg gs) (hl : IntsAt w vl lots) :
    ∃ m s c z R l, R.length ≤ 7 ∧ (∀ wq, Below w.heap.size w wq → Calls Tryz.prog 12 #[conC C, vg, vl] wq fun e w' => ∃ v, e = .returned (.tuple #[v, .int .i64 z]) ∧ TrsAt w' m s c R l v ∧ Below wq.heap.size wq w') ∧
      (∀ wq, Below w.heap.size w wq → Calls Tryz.prog 13 #[conC C, vg, vl, .bool false] wq fun e w' => ∃ v, e = .returned (.tuple #[v, .int .i64 z]) ∧ TrsAt w' m s c R l v ∧ Below wq.heap.size wq w') := by
  by_cases hok : fitC C gs lots = 0
  · have hok := fit_iff.1 hok
    have hun : ∀ x, (∃ r ∈ (countS false (brkS C.ties lots) gs C.n (List.replicate C.n true) []).getLast?, r.el = [x]) → [x] = (((countS false (brkS C.ties lots) gs C.n (List.replicate C.n true) []).getLast?).map Rnd.el).getD [] := fun x ⟨r, hr, he⟩ => by
      have hr : _ = some r := hr
      rw [hr, Option.map_some, Option.getD_some, he]
    refine ⟨1, 1, C.n, 0, _, (((countS false (brkS C.ties lots) gs C.n (List.replicate C.n true) []).getLast?).map Rnd.el).getD [], Nat.le_trans (count_len (whole := false) (brk := brkS C.ties lots) (gs := gs) C.n (List.replicate C.n true) []) hok.n7, fun wq h => ?_, fun wq h => ?_⟩
    · refine (count_c (hg.keep h) (hl.keep h) hok).mono ?_
      rintro e w' ⟨vr, vw, x, rfl, g1, g2, g3, g4⟩
      obtain ⟨pr, cr, rfl, _, _⟩ := SliceOf.shape g1.now
      obtain ⟨pw, cw, rfl⟩ := IntsAt.shape g2.now
      exact ⟨_, rfl, ⟨pr, _, cr, pw, _, cw, rfl, g1.now, by rw [← hun x g3.out]; exact g2.now⟩, g4⟩
    · refine (rirv_c false (hg.keep h) (hl.keep h) hok).mono ?_
      rintro e w' ⟨vr, vw, x, rfl, g1, g2, g3, g4⟩
      obtain ⟨pr, cr, rfl, _, _⟩ := SliceOf.shape g1.now
      obtain ⟨pw, cw, rfl⟩ := IntsAt.shape g2.now
      exact ⟨_, rfl, ⟨pr, _, cr, pw, _, cw, rfl, g1.now, by rw [← hun x g3.out]; exact g2.now⟩, g4⟩
  · refine ⟨0, 0, 0, fitC C gs lots, [], [], by simp, fun wq h => ?_, fun wq h => ?_⟩
    · refine (count_bad hn (hg.keep h) (hl.keep h) hok).mono ?_
      rintro e w' ⟨rfl, g4⟩
      exact ⟨_, rfl, ⟨_, _, _, _, _, _, rfl, SliceOf.nil _, RowAt.nil _⟩, g4⟩
    · refine (rirv_bad false hn (hg.keep h) (hl.keep h) hok).mono ?_
      rintro e w' ⟨rfl, g4⟩
      exact ⟨_, rfl, ⟨_, _, _, _, _, _, rfl, SliceOf.nil _, RowAt.nil _⟩, g4⟩

section
variable {C : ConP} {vg vl v : Value} {gs : List Grp} {lots : List Int} {L : List (List Int)} {w : World}
set_option maxRecDepth 100000 in
set_option maxHeartbeats 4000000 in
theorem counts_out (raw : Bool) (n code : Int) (hg : PileAt w vg gs) (hl : IntsAt w vl lots) (hv : GridAt w v L) (h : shortB gs = false ∨ fewB L = false ∨ 12 < lots.length ∨ 12 < C.n) :
    Calls Tryz.prog 3 #[conC C, vg, vl, .bool raw, .int .i64 n, .int .i64 code, v] w fun e w' => e = .returned (.bool true) ∧ Below w.heap.size w w' := by
  obtain ⟨pl, cl, rfl⟩ := hl.shape
  obtain ⟨ln, hln⟩ : ∃ n, lots.length = n := ⟨_, rfl⟩
  rw [hln] at hl h ⊢
  have SW := fun wq (h : Below w.heap.size w wq) => short_gc (hg.keep h)
  have FW := fun wq (h : Below w.heap.size w wq) => few_c (hv.keep h)
  unfold conC conV
  have hbX : Below w.heap.size w (w.alloc (.cells #[C.nm, .slice C.p C.n C.c, .int .i64 C.cm, .int .i64 C.seats, .int .i64 C.ranks, .int .i64 C.digits, .int .i64 C.ties, .int .i64 C.over, .int .i64 C.skip] 24)) := (Below.refl _ _).alloc (Nat.le_refl _) _
  obtain ⟨x0, x1, x2, x3, x4, x5, x6, x7, x8⟩ := nine_cells (Blk.new w #[C.nm, .slice C.p C.n C.c, .int .i64 C.cm, .int .i64 C.seats, .int .i64 C.ranks, .int .i64 C.digits, .int .i64 C.ties, .int .i64 C.over, .int .i64 C.skip] 24)
  have HBX := Lib.hid hbX
  clear hg hl hv hln
  cases h1 : shortB gs with
  | false =>
    rw [h1] at SW
    have SW := Lib.hid SW
    clear FW h h1
    go_enter Tryz.func3, Tryz.ntmps3
    go_wp2_with (first
      | (go_at_call 5; ((with_reducible refine (SW.out _ hbX).mono ?_); rintro _ w1 ⟨rfl, rfl⟩))
      | (go_at_call 7; ((with_reducible refine (awake26 _).mono ?_); rintro _ w2 ⟨rfl, hb2⟩)))
    go_ret
    exact ⟨rfl, bel2' HBX.out hb2⟩
  | true =>
    rw [h1] at SW h
    have SW := Lib.hid SW
    cases h2 : fewB L with
    | false =>
      rw [h2] at FW
      have FW := Lib.hid FW
      clear h h1 h2
      go_enter Tryz.func3, Tryz.ntmps3
      go_wp2_with (first
        | (go_at_call 5; ((with_reducible refine (SW.out _ hbX).mono ?_); rintro _ w1 ⟨rfl, rfl⟩))
        | (go_at_call 6; ((with_reducible refine (FW.out _ hbX).mono ?_); rintro _ w1 ⟨rfl, rfl⟩))
        | (go_at_call 7; ((with_reducible refine (awake26 _).mono ?_); rintro _ w2 ⟨rfl, hb2⟩)))
      go_ret
      exact ⟨rfl, bel2' HBX.out hb2⟩
    | true =>
      rw [h2] at FW h
      have FW := Lib.hid FW
      have h : 12 < ln ∨ 12 < C.n := by
        rcases h with h | h | h
        · cases h
        · cases h
        · exact h
      clear h1 h2
      by_cases h3 : 12 < ln
      · have q1 : (12 : Int) < (ln : Int) := by omega
        have q2 : decide ((12 : Int) < (ln : Int)) = true := decide_eq_true q1
        clear h
        go_enter Tryz.func3, Tryz.ntmps3
        go_wp2_with (first
          | (go_at_call 5; ((with_reducible refine (SW.out _ hbX).mono ?_); rintro _ w1 ⟨rfl, rfl⟩))
          | (go_at_call 6; ((with_reducible refine (FW.out _ hbX).mono ?_); rintro _ w1 ⟨rfl, rfl⟩))
          | (go_at_call 7; ((with_reducible refine (awake26 _).mono ?_); rintro _ w2 ⟨rfl, hb2⟩)))
        go_ret
        exact ⟨rfl, bel2' HBX.out hb2⟩
      · have q1 : ¬ (12 : Int) < (ln : Int) := by omega
        have q2 : decide ((12 : Int) < (ln : Int)) = false := decide_eq_false q1
        have q3 : (12 : Int) < (C.n : Int) := by omega
        have q4 : decide ((12 : Int) < (C.n : Int)) = true := decide_eq_true q3
        clear h
        go_enter Tryz.func3, Tryz.ntmps3
        go_wp2_with (first
          | (go_at_call 5; ((with_reducible refine (SW.out _ hbX).mono ?_); rintro _ w1 ⟨rfl, rfl⟩))
          | (go_at_call 6; ((with_reducible refine (FW.out _ hbX).mono ?_); rintro _ w1 ⟨rfl, rfl⟩))
          | (go_at_call 7; ((with_reducible refine (awake26 _).mono ?_); rintro _ w2 ⟨rfl, hb2⟩)))
        go_ret
        exact ⟨rfl, bel2' HBX.out hb2⟩

set_option maxRecDepth 100000 in
set_option maxHeartbeats 4000000 in
theorem counts_raw (n code : Int) (hg : PileAt w vg gs) (hl : IntsAt w vl lots) (hv : GridAt w v L) (h1 : shortB gs = true) (h2 : fewB L = true) (h3 : lots.length ≤ 12) (h4 : C.n ≤ 12) :
    Calls Tryz.prog 3 #[conC C, vg, vl, .bool true, .int .i64 n, .int .i64 code, v] w fun e w' => e = .returned (.bool true) ∧ Below w.heap.size w w' := by
  obtain ⟨m, s, cc, z, R, l, hR7, T1, T2⟩ := trs_both (C := C) (by omega) hg hl
  obtain ⟨pl, cl, rfl⟩ := hl.shape
  obtain ⟨ln, hln⟩ : ∃ n, lots.length = n := ⟨_, rfl⟩
  rw [hln] at h3 T1 T2 ⊢
  have SW := Lib.hid (fun wq (h : Below w.heap.size w wq) => short_gc (hg.keep h))
  have FW := Lib.hid (fun wq (h : Below w.heap.size w wq) => few_c (hv.keep h))
  rw [h1] at SW
  rw [h2] at FW
  have q1 : ¬ (12 : Int) < (ln : Int) := by omega
  have q2 : decide ((12 : Int) < (ln : Int)) = false := decide_eq_false q1
  have q3 : ¬ (12 : Int) < (C.n : Int) := by omega
  have q4 : decide ((12 : Int) < (C.n : Int)) = false := decide_eq_false q3
  have qz : (z == z) = true := by simp
  unfold conC conV at T1 T2 ⊢
  have C1 := Lib.hid T1
  have C2 := Lib.hid T2
  have hbA : Below w.heap.size w (w.alloc (.cells #[C.nm, .slice C.p C.n C.c, .int .i64 C.cm, .int .i64 C.seats, .int .i64 C.ranks, .int .i64 C.digits, .int .i64 C.ties, .int .i64 C.over, .int .i64 C.skip] 24)) := (Below.refl _ _).alloc (Nat.le_refl _) _
  have KC := Blk.new w #[C.nm, .slice C.p C.n C.c, .int .i64 C.cm, .int .i64 C.seats, .int .i64 C.ranks, .int .i64 C.digits, .int .i64 C.ties, .int .i64 C.over, .int .i64 C.skip] 24
  obtain ⟨W0, hW0⟩ : ∃ W, w.alloc (.cells #[C.nm, .slice C.p C.n C.c, .int .i64 C.cm, .int .i64 C.seats, .int .i64 C.ranks, .int .i64 C.digits, .int .i64 C.ties, .int .i64 C.over, .int .i64 C.skip] 24) = W := ⟨_, rfl⟩
  rw [hW0] at hbA KC
  obtain ⟨x0, x1, x2, x3, x4, x5, x6, x7, x8⟩ := nine_cells KC
  have KC := Lib.hid KC
  clear hg hl hv h1 h2 hln T1 T2
  go_enter Tryz.func3, Tryz.ntmps3
  go_wp2_with (first
      | (go_at_call 5; ((with_reducible refine (SW.out _ hbA).mono ?_); rintro _ w1 ⟨rfl, rfl⟩))
      | (go_at_call 6; ((with_reducible refine (FW.out _ hbA).mono ?_); rintro _ w1 ⟨rfl, rfl⟩))
      | (go_at_call 12; ((with_reducible refine (C1.out _ hbA).mono ?_); rintro _ w10 ⟨_, rfl, ⟨pr1, nr1, cr1, pw1, nw1, cw1, rfl, hr1, hi1⟩, hb10⟩; have a10 : Below w10.heap.size w10 (w10.alloc (.cells #[.int .i64 m, .int .i64 s, .int .i64 0, .int .i64 cc, .slice pr1 nr1 cr1, .slice pw1 nw1 cw1] 37)) := below_al (Below.refl _ _) _; have KA := Blk.new w10 #[.int .i64 m, .int .i64 s, .int .i64 0, .int .i64 cc, .slice pr1 nr1 cr1, .slice pw1 nw1 cw1] 37; obtain ⟨WA, hWA⟩ : ∃ W, w10.alloc (.cells #[.int .i64 m, .int .i64 s, .int .i64 0, .int .i64 cc, .slice pr1 nr1 cr1, .slice pw1 nw1 cw1] 37) = W := ⟨_, rfl⟩; obtain ⟨TA, hTA⟩ : ∃ T, w10.heap.size = T := ⟨_, rfl⟩; rw [hWA] at a10 KA; rw [hTA] at KA; have hbAA := bel2' hb10 a10; have hbWA := bel2' hbA hbAA; have HR1 := Lib.hid (hr1.keep a10); have HI1 := Lib.hid (hi1.keep a10); have KA := Lib.hid KA; clear hr1 hi1; obtain ⟨e0, e1, e2, e3, e4, e5, e6, e7, e8⟩ := nine_cells (KC.out.keep hbAA)))
      | (go_at_call 13; ((with_reducible refine (C2.out _ hbWA).mono ?_); rintro _ w11 ⟨_, rfl, ⟨pr2, nr2, cr2, pw2, nw2, cw2, rfl, hr2, hi2⟩, hb11⟩; have a11 : Below w11.heap.size w11 (w11.alloc (.cells #[.int .i64 m, .int .i64 s, .int .i64 0, .int .i64 cc, .slice pr2 nr2 cr2, .slice pw2 nw2 cw2] 37)) := below_al (Below.refl _ _) _; have KB := Blk.new w11 #[.int .i64 m, .int .i64 s, .int .i64 0, .int .i64 cc, .slice pr2 nr2 cr2, .slice pw2 nw2 cw2] 37; obtain ⟨WB, hWB⟩ : ∃ W, w11.alloc (.cells #[.int .i64 m, .int .i64 s, .int .i64 0, .int .i64 cc, .slice pr2 nr2 cr2, .slice pw2 nw2 cw2] 37) = W := ⟨_, rfl⟩; obtain ⟨TB, hTB⟩ : ∃ T, w11.heap.size = T := ⟨_, rfl⟩; rw [hWB] at a11 KB; rw [hTB] at KB; have hbBB := bel2' hb11 a11; have hbWB := bel2' hbWA hbBB; have HR2 := Lib.hid (hr2.keep a11); have HI2 := Lib.hid (hi2.keep a11); have KB := Lib.hid KB; clear hr2 hi2))
      | (go_at_call 7; ((with_reducible refine (awake26 _).mono ?_); rintro _ w12 ⟨rfl, hb12⟩; have hbA12 := bel2' hbBB hb12; obtain ⟨u0, u1, u2, u3, u4, u5⟩ := cells6 (KA.out.keep hbA12); obtain ⟨y0, y1, y2, y3, y4, y5⟩ := cells6 (KB.out.keep hb12); have hbW12 := bel2' hbWB hb12))
      | (go_at_call 14; ((with_reducible refine (requal_c (HR1.out.keep hbA12) (HR2.out.keep hb12) (HI1.out.keep hbA12) (HI2.out.keep hb12) hR7).mono ?_); rintro _ w13 ⟨rfl, hb13⟩)))
  go_ret
  exact ⟨rfl, bel2' hbW12 hb13⟩

theorem blk9 {b : Nat} {w : World} {x0 x1 x2 x3 x4 x5 x6 x7 x8 : Value} (h : Blk b #[x0, x1, x2, x3, x4, x5, x6, x7, x8] w) (y0 y1 y2 y3 y4 y5 y6 y7 y8 : Value) :
    Blk b #[y0, y1, y2, y3, y4, y5, y6, y7, y8] (((((((((w.setCell ⟨b, 0, none⟩ y0).setCell ⟨b, 1, none⟩ y1).setCell ⟨b, 2, none⟩ y2).setCell ⟨b, 3, none⟩ y3).setCell ⟨b, 4, none⟩ y4).setCell ⟨b, 5, none⟩ y5).setCell ⟨b, 6, none⟩ y6).setCell ⟨b, 7, none⟩ y7).setCell ⟨b, 8, none⟩ y8) :=
  blk_put (blk_put (blk_put (blk_put (blk_put (blk_put (blk_put (blk_put (blk_put h (o := 0) (by simp) y0) (o := 1) (by simp) y1) (o := 2) (by simp) y2) (o := 3) (by simp) y3) (o := 4) (by simp) y4) (o := 5) (by simp) y5) (o := 6) (by simp) y6) (o := 7) (by simp) y7) (o := 8) (by simp) y8
theorem below9 {b B : Nat} {w0 w : World} (h : Below B w0 w) (hb : B ≤ b) (y0 y1 y2 y3 y4 y5 y6 y7 y8 : Value) :
    Below B w0 (((((((((w.setCell ⟨b, 0, none⟩ y0).setCell ⟨b, 1, none⟩ y1).setCell ⟨b, 2, none⟩ y2).setCell ⟨b, 3, none⟩ y3).setCell ⟨b, 4, none⟩ y4).setCell ⟨b, 5, none⟩ y5).setCell ⟨b, 6, none⟩ y6).setCell ⟨b, 7, none⟩ y7).setCell ⟨b, 8, none⟩ y8) := by
  have one : ∀ {w : World} (j : Nat) (v : Value), Below B w0 w → Below B w0 (w.setCell ⟨b, j, none⟩ v) := fun {w} j v h => h.setCell (p := ⟨b, j, none⟩) hb v
  exact one _ _ (one _ _ (one _ _ (one _ _ (one _ _ (one _ _ (one _ _ (one _ _ (one _ _ h))))))))
theorem nine_frees {b : Nat} {cs : Array Value} {w : World} (h : Blk b cs w) : w.frozen? ⟨b, 0, none⟩ = false ∧ w.frozen? ⟨b, 1, none⟩ = false ∧ w.frozen? ⟨b, 2, none⟩ = false ∧ w.frozen? ⟨b, 3, none⟩ = false ∧ w.frozen? ⟨b, 4, none⟩ = false ∧ w.frozen? ⟨b, 5, none⟩ = false ∧ w.frozen? ⟨b, 6, none⟩ = false ∧ w.frozen? ⟨b, 7, none⟩ = false ∧ w.frozen? ⟨b, 8, none⟩ = false :=
  ⟨h.2.2 0, h.2.2 1, h.2.2 2, h.2.2 3, h.2.2 4, h.2.2 5, h.2.2 6, h.2.2 7, h.2.2 8⟩

set_option maxRecDepth 100000 in
set_option maxHeartbeats 8000000 in
theorem counts_made (n code : Int) (hc1 : -9223372036854775808 ≤ code) (hc2 : code ≤ 9223372036854775807) (hg : PileAt w vg gs) (hl : IntsAt w vl lots) (hv : GridAt w v L) (h1 : shortB gs = true) (h2 : fewB L = true) (h3 : lots.length ≤ 12) (h4 : C.n ≤ 12) :
    Calls Tryz.prog 3 #[conC C, vg, vl, .bool false, .int .i64 n, .int .i64 code, v] w fun e w' => e = .returned (.bool true) ∧ Below w.heap.size w w' := by
  obtain ⟨hf1, hf2⟩ := few_true.1 h2
  obtain ⟨pl, cl, rfl⟩ := hl.shape
  obtain ⟨ln, hln⟩ : ∃ n, lots.length = n := ⟨_, rfl⟩
  rw [hln] at h3 ⊢
  have SW := Lib.hid (fun wq (h : Below w.heap.size w wq) => short_gc (hg.keep h))
  have FW := Lib.hid (fun wq (h : Below w.heap.size w wq) => few_c (hv.keep h))
  rw [h1] at SW
  rw [h2] at FW
  have q1 : ¬ (12 : Int) < (ln : Int) := by omega
  have q2 : decide ((12 : Int) < (ln : Int)) = false := decide_eq_false q1
  have q3 : ¬ (12 : Int) < (C.n : Int) := by omega
  have q4 : decide ((12 : Int) < (C.n : Int)) = false := decide_eq_false q3
  obtain ⟨k, hk, k1, k7⟩ := mod_one n 7 (by omega)
  obtain ⟨z7, hz⟩ : ∃ z, n % ((7 : Nat) : Int) = z := ⟨_, rfl⟩
  rw [hz] at hk
  have M7 : Hid (∀ w, Calls Tryz.prog 8 #[.int .i64 n, .int .i64 7] w fun e w' => e = .returned (.int .i64 z7) ∧ w = w') := Lib.hid (fun w => by rw [← hz]; exact mod_c n 7 (by omega) (by omega) w)
  have e2k : IntKind.i64.wrap (k : Int) = k := w64 (by omega) (by omega)
  obtain ⟨T, hT⟩ : ∃ T, 1 + C.ties % 3 = T := ⟨_, rfl⟩
  have CO : Hid (∀ wq, Calls Tryz.prog 9 #[.int .i64 0, .int .i64 k, .int .i64 0, .int .i64 0, .int .i64 C.ties] wq fun e w' => ∃ p c, e = .returned (conC (conM p k c T)) ∧ Below wq.heap.size wq w') := Lib.hid (fun wq => by rw [← hT]; exact contest_c k (by omega) C.ties wq)
  have PL := Lib.hid (fun wq (h : Below w.heap.size w wq) => mpile_c (hv.keep h) k1 k7 hf1 hf2)
  obtain ⟨gs2, hgs⟩ : ∃ gs, pileB k L = gs := ⟨_, rfl⟩
  rw [hgs] at PL
  have P1 := Lib.hid (fun wq => perm_x k (by omega) code hc1 hc2 wq)
  obtain ⟨lots2, hlo⟩ : ∃ l, permS k code = l := ⟨_, rfl⟩
  rw [hlo] at P1
  have TB := Lib.hid (fun (wq : World) (p : Option Addr) (c : Nat) (vg vl : Value) (h1 : PileAt wq vg gs2) (h2 : IntsAt wq vl lots2) => trs_both (C := conM p k c T) (by show k ≤ 1000; omega) h1 h2)
  unfold conC conM conV nmV at CO TB
  simp only at CO TB
  unfold conC conV
  have hb0 : Below w.heap.size w (w.alloc (.cells #[C.nm, .slice C.p C.n C.c, .int .i64 C.cm, .int .i64 C.seats, .int .i64 C.ranks, .int .i64 C.digits, .int .i64 C.ties, .int .i64 C.over, .int .i64 C.skip] 24)) := (Below.refl _ _).alloc (Nat.le_refl _) _
  have KX := Blk.new w #[C.nm, .slice C.p C.n C.c, .int .i64 C.cm, .int .i64 C.seats, .int .i64 C.ranks, .int .i64 C.digits, .int .i64 C.ties, .int .i64 C.over, .int .i64 C.skip] 24
  obtain ⟨W0, hW0⟩ : ∃ W, w.alloc (.cells #[C.nm, .slice C.p C.n C.c, .int .i64 C.cm, .int .i64 C.seats, .int .i64 C.ranks, .int .i64 C.digits, .int .i64 C.ties, .int .i64 C.over, .int .i64 C.skip] 24) = W := ⟨_, rfl⟩
  rw [hW0] at hb0 KX
  obtain ⟨X, hX⟩ : ∃ X, w.heap.size = X := ⟨_, rfl⟩
  have HX := Lib.hid hX
  obtain ⟨x0, x1, x2, x3, x4, x5, x6, x7, x8⟩ := nine_cells KX
  have KX := Lib.hid KX
  have hXle : w.heap.size ≤ X := by omega
  rw [hX] at KX x0 x1 x2 x3 x4 x5 x6 x7 x8
  clear hg hl hv h1 h2 hln hz hT hgs hlo hf1 hf2
  go_enter Tryz.func3, Tryz.ntmps3
  go_upto_region 7 with (first
      | (go_at_call 5; ((with_reducible refine (SW.out _ hb0).mono ?_); rintro _ w1 ⟨rfl, rfl⟩))
      | (go_at_call 6; ((with_reducible refine (FW.out _ hb0).mono ?_); rintro _ w1 ⟨rfl, rfl⟩))
      | (go_at_call 8; ((with_reducible refine (M7.out _).mono ?_); rintro _ w2 ⟨rfl, rfl⟩))
      | (go_at_call 9; ((with_reducible refine (CO.out _).mono ?_); rintro _ w4 ⟨p, c, rfl, hb4⟩; have KX4 := KX.out.keep hb4; obtain ⟨g0, g1, g2, g3, g4, g5, g6, g7, g8⟩ := nine_cells KX4; obtain ⟨f0, f1, f2, f3, f4, f5, f6, f7, f8⟩ := nine_frees KX4; have KX5 := blk9 KX4 (.string ⟨#[99]⟩) (.slice p k c) (.int .i64 1) (.int .i64 1) (.int .i64 0) (.int .i64 0) (.int .i64 T) (.int .i64 0) (.int .i64 0); have hb5 := below9 (bel2' hb0 hb4) hXle (.string ⟨#[99]⟩) (.slice p k c) (.int .i64 1) (.int .i64 1) (.int .i64 0) (.int .i64 0) (.int .i64 T) (.int .i64 0) (.int .i64 0); obtain ⟨W5, hW5⟩ : ∃ W, (((((((((w4.setCell ⟨X, 0, none⟩ (.string ⟨#[99]⟩)).setCell ⟨X, 1, none⟩ (.slice p k c)).setCell ⟨X, 2, none⟩ (.int .i64 1)).setCell ⟨X, 3, none⟩ (.int .i64 1)).setCell ⟨X, 4, none⟩ (.int .i64 0)).setCell ⟨X, 5, none⟩ (.int .i64 0)).setCell ⟨X, 6, none⟩ (.int .i64 T)).setCell ⟨X, 7, none⟩ (.int .i64 0)).setCell ⟨X, 8, none⟩ (.int .i64 0)) = W := ⟨_, rfl⟩; rw [hW5] at KX5 hb5; have KX5 := Lib.hid KX5; clear KX4))
      | (go_at_call 10; ((with_reducible refine (PL.out _ hb5).mono ?_); rintro _ w6 ⟨v6, rfl, h6, hb6⟩))
      | (go_at_call 11; ((with_reducible refine (P1.out _).mono ?_); rintro _ w7 ⟨v7, rfl, h7, _, hb7⟩)))
  have hbw7 := bel2' (bel2' hb5 hb6) hb7
  have KC := KX5.out.keep (bel2' hb6 hb7)
  obtain ⟨m, s, cc, z, R, l, hR7, T1, T2⟩ := TB.out w7 p c _ _ (h6.keep hb7) h7
  have qz : (z == z) = true := by simp
  obtain ⟨j0, j1, j2, j3, j4, j5, j6, j7, j8⟩ := nine_cells KC
  have KC := Lib.hid KC
  have C1 := Lib.hid T1
  have C2 := Lib.hid T2
  have hbA : Below w7.heap.size w7 w7 := Below.refl _ _
  clear T1 T2 h6 h7 hb5 hb6 hb7 hW5 g0 g1 g2 g3 g4 g5 g6 g7 g8 f0 f1 f2 f3 f4 f5 f6 f7 f8 x0 x1 x2 x3 x4 x5 x6 x7 x8
  go_wp2_with (first
      | (go_at_call 12; ((with_reducible refine (C1.out _ hbA).mono ?_); rintro _ w10 ⟨_, rfl, ⟨pr1, nr1, cr1, pw1, nw1, cw1, rfl, hr1, hi1⟩, hb10⟩; have a10 : Below w10.heap.size w10 (w10.alloc (.cells #[.int .i64 m, .int .i64 s, .int .i64 0, .int .i64 cc, .slice pr1 nr1 cr1, .slice pw1 nw1 cw1] 37)) := below_al (Below.refl _ _) _; have KA := Blk.new w10 #[.int .i64 m, .int .i64 s, .int .i64 0, .int .i64 cc, .slice pr1 nr1 cr1, .slice pw1 nw1 cw1] 37; obtain ⟨WA, hWA⟩ : ∃ W, w10.alloc (.cells #[.int .i64 m, .int .i64 s, .int .i64 0, .int .i64 cc, .slice pr1 nr1 cr1, .slice pw1 nw1 cw1] 37) = W := ⟨_, rfl⟩; obtain ⟨TA, hTA⟩ : ∃ T, w10.heap.size = T := ⟨_, rfl⟩; rw [hWA] at a10 KA; rw [hTA] at KA; have hbAA := bel2' hb10 a10; have hbWA := bel2' hbA hbAA; have HR1 := Lib.hid (hr1.keep a10); have HI1 := Lib.hid (hi1.keep a10); have KA := Lib.hid KA; clear hr1 hi1; obtain ⟨e0, e1, e2, e3, e4, e5, e6, e7, e8⟩ := nine_cells (KC.out.keep hbAA)))
      | (go_at_call 13; ((with_reducible refine (C2.out _ hbWA).mono ?_); rintro _ w11 ⟨_, rfl, ⟨pr2, nr2, cr2, pw2, nw2, cw2, rfl, hr2, hi2⟩, hb11⟩; have a11 : Below w11.heap.size w11 (w11.alloc (.cells #[.int .i64 m, .int .i64 s, .int .i64 0, .int .i64 cc, .slice pr2 nr2 cr2, .slice pw2 nw2 cw2] 37)) := below_al (Below.refl _ _) _; have KB := Blk.new w11 #[.int .i64 m, .int .i64 s, .int .i64 0, .int .i64 cc, .slice pr2 nr2 cr2, .slice pw2 nw2 cw2] 37; obtain ⟨WB, hWB⟩ : ∃ W, w11.alloc (.cells #[.int .i64 m, .int .i64 s, .int .i64 0, .int .i64 cc, .slice pr2 nr2 cr2, .slice pw2 nw2 cw2] 37) = W := ⟨_, rfl⟩; obtain ⟨TB, hTB⟩ : ∃ T, w11.heap.size = T := ⟨_, rfl⟩; rw [hWB] at a11 KB; rw [hTB] at KB; have hbBB := bel2' hb11 a11; have hbWB := bel2' hbWA hbBB; have HR2 := Lib.hid (hr2.keep a11); have HI2 := Lib.hid (hi2.keep a11); have KB := Lib.hid KB; clear hr2 hi2))
      | (go_at_call 7; ((with_reducible refine (awake26 _).mono ?_); rintro _ w12 ⟨rfl, hb12⟩; have hbA12 := bel2' hbBB hb12; obtain ⟨u0, u1, u2, u3, u4, u5⟩ := cells6 (KA.out.keep hbA12); obtain ⟨y0, y1, y2, y3, y4, y5⟩ := cells6 (KB.out.keep hb12); have hbW12 := bel2' hbWB hb12))
      | (go_at_call 14; ((with_reducible refine (requal_c (HR1.out.keep hbA12) (HR2.out.keep hb12) (HI1.out.keep hbA12) (HI2.out.keep hb12) hR7).mono ?_); rintro _ w13 ⟨rfl, hb13⟩)))
  go_ret
  exact ⟨rfl, bel2' hbw7 (bel2' hbW12 hb13)⟩

theorem walk_IrvCounts (hg : PileAt w vg gs) (hl : IntsAt w vl lots) (raw : Bool) (n code : Int) (hc1 : -9223372036854775808 ≤ code) (hc2 : code ≤ 9223372036854775807) (hv : GridAt w v L) :
    Calls Tryz.prog 3 #[conC C, vg, vl, .bool raw, .int .i64 n, .int .i64 code, v] w fun e w' => e = .returned (.bool true) ∧ Below w.heap.size w w' := by
  by_cases h : shortB gs = true ∧ fewB L = true ∧ lots.length ≤ 12 ∧ C.n ≤ 12
  · cases raw
    · exact counts_made n code hc1 hc2 hg hl hv h.1 h.2.1 h.2.2.1 h.2.2.2
    · exact counts_raw n code hg hl hv h.1 h.2.1 h.2.2.1 h.2.2.2
  · refine counts_out raw n code hg hl hv ?_
    cases h1 : shortB gs
    · exact .inl rfl
    · cases h2 : fewB L
      · exact .inr (.inl rfl)
      · refine .inr (.inr ?_)
        by_cases h3 : 12 < lots.length
        · exact .inl h3
        · exact .inr (Nat.lt_of_not_le fun h4 => h ⟨h1, h2, by omega, h4⟩)
end

end Go.Proofs.YtbnhgmikegdppaaGreat

namespace Go.Proofs.YtbnhgmikegdppaaGreat.irvCounts
open Go.ChangeShapes Go.WideShapes Go.ChangeAt Go.RowKit
open Go.ChangeMaps (open_string shut_string)

theorem own : ownKnob Tryz.prog.godebug = none := by kernel_rfl
theorem laidOut : laidOutB Tryz.prog = true := by kernel_rfl

set_option maxRecDepth 100000 in
theorem lifted (os : Os) (started : os.Started) (H : Type) (enc : TypeId × Value → H) :
    ReturnsInHanded {} Tryz.checked os 3 .any (Rows.irvCountsSpec.pre6 enc Tryz.prog Tryz.f3 Rows.irvCountsRow.domain false) (Rows.irvCountsSpec.post enc Tryz.prog Tryz.f3 false true false false) := by
  refine returnsInHanded_of_change (C := Tryz.checked) own started (by kernel_rfl) Tryz.func3
    (ChangeSpec.witness6 (enc := enc) (C := Tryz.checked) false ⟨#[], #[.agg #[.string ByteArray.empty, .slice none 0 0, .int .i64 0, .int .i64 0, .int .i64 0, .int .i64 0, .int .i64 0, .int .i64 0, .int .i64 0], .slice none 0 0, .slice none 0 0, .bool false, .int .i64 0, .int .i64 0, .slice none 0 0], []⟩ 8 (by kernel_rfl) (by kernel_rfl) (by kernel_rfl) (by kernel_rfl)) ?_
  intro W base args ds gs before hval0 hW hcnd _
  have hval := hval0
  have hW' := hW
  obtain ⟨p, q, hA0, hV, rfl, hfz, hnd⟩ := hW
  have hA : DataW.TrodAll enc Tryz.prog W 0 (fun _ => true) true Tryz.f3.params.toList args.toList ds p := hA0
  rw [Tryz.params3] at hA hval
  obtain ⟨v0, vs0, d0, ds0, p0, q0, hargs, rfl, rfl, h0, r0⟩ := trodAll_cons hA
  obtain ⟨v1, vs1, d1, ds1, p1, q1, rfl, rfl, rfl, h1, r1⟩ := trodAll_cons r0
  obtain ⟨v2, vs2, d2, ds2, p2, q2, rfl, rfl, rfl, h2, r2⟩ := trodAll_cons r1
  obtain ⟨v3, vs3, d3, ds3, p3, q3, rfl, rfl, rfl, h3, r3⟩ := trodAll_cons r2
  obtain ⟨v4, vs4, d4, ds4, p4, q4, rfl, rfl, rfl, h4, r4⟩ := trodAll_cons r3
  obtain ⟨v5, vs5, d5, ds5, p5, q5, rfl, rfl, rfl, h5, r5⟩ := trodAll_cons r4
  obtain ⟨v6, vs6, d6, ds6, p6, q6, rfl, rfl, rfl, h6, r6⟩ := trodAll_cons r5
  obtain ⟨rfl, rfl, rfl⟩ := trodAll_nil r6
  obtain rfl : args = #[v0, v1, v2, v3, v4, v5, v6] := by cases args; simp_all
  obtain ⟨rfl, rfl⟩ := trodVars_none hV
  have lt0 : ∀ x ∈ p0, x.block < W.heap.size := by obtain ⟨m, hm⟩ := h0; exact DataW.trod_lt m _ _ _ hm
  obtain ⟨C0, rfl⟩ := con_open (hval 0 24 v0 rfl rfl) h0
  have lt1 : ∀ x ∈ p1, x.block < W.heap.size := by obtain ⟨m, hm⟩ := h1; exact DataW.trod_lt m _ _ _ hm
  obtain ⟨l1, n1⟩ := pile_open (hval 1 25 v1 rfl rfl) h1
  have lt2 : ∀ x ∈ p2, x.block < W.heap.size := by obtain ⟨m, hm⟩ := h2; exact DataW.trod_lt m _ _ _ hm
  obtain ⟨l2, n2⟩ := ints_open (hval 2 26 v2 rfl rfl) h2
  obtain ⟨a3, rfl, rfl, rfl⟩ := open_bool Tryz.underlying4 (hval 3 4 v3 rfl rfl) h3
  obtain ⟨a4, rfl, rfl, rfl, w4⟩ := open_int Tryz.underlying3 (hval 4 3 v4 rfl rfl) h4
  obtain ⟨a5, rfl, rfl, rfl, w5⟩ := open_int Tryz.underlying3 (hval 5 3 v5 rfl rfl) h5
  have wf5 := w5
  simp [Lit.wf] at wf5
  have lo5 : IntKind.i64.min = -9223372036854775808 := by decide
  have hi5 : IntKind.i64.max = 9223372036854775807 := by decide
  have lt6 : ∀ x ∈ p6, x.block < W.heap.size := by obtain ⟨m, hm⟩ := h6; exact DataW.trod_lt m _ _ _ hm
  obtain ⟨l6, n6⟩ := grid_open (hval 6 27 v6 rfl rfl) h6
  clear hA0 hval0
  refine (walk_IrvCounts n1 n2 a3 a4 a5 (by omega) (by omega) n6).mono fun e W' ⟨he, bel⟩ => ?_
  subst he
  exact ⟨_, rfl, _, _, _, [], _, [], hW', trodAll_mk1 (shut_bool Tryz.underlying4 _), (trodAll_cons_mk (Below.trod laidOut (by kernel_rfl) (of_decide_eq_true (by kernel_rfl)) h0 bel lt0) (trodAll_cons_mk (Below.trod laidOut (by kernel_rfl) (of_decide_eq_true (by kernel_rfl)) h1 bel lt1) (trodAll_cons_mk (Below.trod laidOut (by kernel_rfl) (of_decide_eq_true (by kernel_rfl)) h2 bel lt2) (trodAll_cons_mk (shut_bool Tryz.underlying4 _) (trodAll_cons_mk (shut_int Tryz.underlying3 w4) (trodAll_cons_mk (shut_int Tryz.underlying3 w5) (trodAll_cons_mk (Below.trod laidOut (by kernel_rfl) (of_decide_eq_true (by kernel_rfl)) h6 bel lt6) trodAll_mk0))))))), rfl, bel.frame _, fun h => by cases h⟩

theorem over : Rows.irvCountsRow.holds Tryz.pinned (OpenSpec.ofChange Rows.irvCountsSpec) :=
  OpenClaim.holds_of_wide 3 Tryz.f3 rfl rfl rfl rfl rfl rfl rfl ⟨rfl, rfl, rfl, rfl, rfl⟩ rfl rfl rfl rfl rfl (by kernel_rfl) Tryz.func3 (by kernel_rfl)
    (of_decide_eq_true (by kernel_rfl)) (by unfold Func.isWrapper; first | (rw [if_pos (by decide +kernel)]; kernel_rfl) | (rw [if_neg (by decide +kernel)]; exact ⟨rfl, rfl⟩))
    (fun os started H enc _ => lifted os started H enc)

end Go.Proofs.YtbnhgmikegdppaaGreat.irvCounts
namespace Go.Proofs.YtbnhgmikegdppaaGreat
/-- IrvCounts: the given statement. -/
theorem irvCounts_proved : Rows.IrvCountsSaid := irvCounts.over
#print axioms irvCounts_proved
end Go.Proofs.YtbnhgmikegdppaaGreat
