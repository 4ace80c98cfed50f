/- The statement IrvOrder: for every input the law returns true and its arguments read as before. No condition. -/
import Derived.Test.YtbnhgmikegdppaaGreatQQ
import Derived.WalkKit
import Derived.ProofKit
import Derived.OpenShut
import Derived.ShutString
import Derived.ChangeOld
import Derived.Below
/- The walk of IrvCounts. -/
namespace Go.Proofs.YtbnhgmikegdppaaGreat
open Go.RowKit Go.Proofs.Kit Go.Proofs.Nums

/-- A transcript that reads. -/
def TrsAt (w : World) (m s c : Int) (R : List Rnd) (l : List Int) (v : Value) : Prop := ∃ pr nr cr pw nw cw, v = .agg #[.int .i64 m, .int .i64 s, .int .i64 0, .int .i64 c, .slice pr nr cr, .slice pw nw cw] ∧ RndsAt w (.slice pr nr cr) R ∧ IntsAt w (.slice pw nw cw) l
/-- irv.Count and the reference's Irv hand back the same transcript, or the same error. -/
theorem trs_both {C : ConP} {vg vl : Value} {gs : List Grp} {lots : List Int} {w : World} (hn : C.n ≤ 1000) (hg : PileAt w vg gs) (hl : IntsAt w vl lots) :
    ∃ m s c z R l, R.length ≤ 7 ∧ (∀ wq, Below w.heap.size w wq → Calls Tryz.prog 12 #[conC C, vg, vl] wq fun e w' => ∃ v, e = .returned (.tuple #[v, .int .i64 z]) ∧ TrsAt w' m s c R l v ∧ Below wq.heap.size wq w') ∧
      (∀ wq, Below w.heap.size w wq → Calls Tryz.prog 13 #[conC C, vg, vl, .bool false] wq fun e w' => ∃ v, e = .returned (.tuple #[v, .int .i64 z]) ∧ TrsAt w' m s c R l v ∧ Below wq.heap.size wq w') := by
  by_cases hok : fitC C gs lots = 0
  · have hok := fit_iff.1 hok
    have hun : ∀ x, (∃ r ∈ (countS false (brkS C.ties lots) gs C.n (List.replicate C.n true) []).getLast?, r.el = [x]) → [x] = (((countS false (brkS C.ties lots) gs C.n (List.replicate C.n true) []).getLast?).map Rnd.el).getD [] := fun x ⟨r, hr, he⟩ => by
      have hr : _ = some r := hr
      rw [hr, Option.map_some, Option.getD_some, he]
    refine ⟨1, 1, C.n, 0, _, (((countS false (brkS C.ties lots) gs C.n (List.replicate C.n true) []).getLast?).map Rnd.el).getD [], Nat.le_trans (count_len (whole := false) (brk := brkS C.ties lots) (gs := gs) C.n (List.replicate C.n true) []) hok.n7, fun wq h => ?_, fun wq h => ?_⟩
    · refine (count_c (hg.keep h) (hl.keep h) hok).mono ?_
      rintro e w' ⟨vr, vw, x, rfl, g1, g2, g3, g4⟩
      obtain ⟨pr, cr, rfl, _, _⟩ := SliceOf.shape g1.now
      obtain ⟨pw, cw, rfl⟩ := IntsAt.shape g2.now
      exact ⟨_, rfl, ⟨pr, _, cr, pw, _, cw, rfl, g1.now, by rw [← hun x g3.out]; exact g2.now⟩, g4⟩
    · refine (rirv_c false (hg.keep h) (hl.keep h) hok).mono ?_
      rintro e w' ⟨vr, vw, x, rfl, g1, g2, g3, g4⟩
      obtain ⟨pr, cr, rfl, _, _⟩ := SliceOf.shape g1.now
      obtain ⟨pw, cw, rfl⟩ := IntsAt.shape g2.now
      exact ⟨_, rfl, ⟨pr, _, cr, pw, _, cw, rfl, g1.now, by rw [← hun x g3.out]; exact g2.now⟩, g4⟩
  · refine ⟨0, 0, 0, fitC C gs lots, [], [], by simp, fun wq h => ?_, fun wq h => ?_⟩
    · refine (count_bad hn (hg.keep h) (hl.keep h) hok).mono ?_
      rintro e w' ⟨rfl, g4⟩
      exact ⟨_, rfl, ⟨_, _, _, _, _, _, rfl, SliceOf.nil _, RowAt.nil _⟩, g4⟩
    · refine (rirv_bad false hn (hg.keep h) (hl.keep h) hok).mono ?_
      rintro e w' ⟨rfl, g4⟩
      exact ⟨_, rfl, ⟨_, _, _, _, _, _, rfl, SliceOf.nil _, RowAt.nil _⟩, g4⟩

section
variable {C : ConP} {vg vl v : Value} {gs : List Grp} {lots : List Int} {L : List (List Int)} {w : World}
set_option maxRecDepth 100000 in
set_option maxHeartbeats 4000000 in
theorem counts_out (raw : Bool) (n code : Int) (hg : PileAt w vg gs) (hl : IntsAt w vl lots) (hv : GridAt w v L) (h : shortB gs = false ∨ fewB L = false ∨ 12 < lots.length ∨ 12 < C.n) :
    Calls Tryz.prog 3 #[conC C, vg, vl, .bool raw, .int .i64 n, .int .i64 code, v] w fun e w' => e = .returned (.bool true) ∧ Below w.heap.size w w' := by
  obtain ⟨pl, cl, rfl⟩ := hl.shape
  obtain ⟨ln, hln⟩ : ∃ n, lots.length = n := ⟨_, rfl⟩
  rw [hln] at hl h ⊢
  have SW := fun wq (h : Below w.heap.size w wq) => short_gc (hg.keep h)
  have FW := fun wq (h : Below w.heap.size w wq) => few_c (hv.keep h)
  unfold conC conV
  have hbX : Below w.heap.size w (w.alloc (.cells #[C.nm, .slice C.p C.n C.c, .int .i64 C.cm, .int .i64 C.seats, .int .i64 C.ranks, .int .i64 C.digits, .int .i64 C.ties, .int .i64 C.over, .int .i64 C.skip] 24)) := (Below.refl _ _).alloc (Nat.le_refl _) _
  obtain ⟨x0, x1, x2, x3, x4, x5, x6, x7, x8⟩ := nine_cells (Blk.new w #[C.nm, .slice C.p C.n C.c, .int .i64 C.cm, .int .i64 C.seats, .int .i64 C.ranks, .int .i64 C.digits, .int .i64 C.ties, .int .i64 C.over, .int .i64 C.skip] 24)
  have HBX := Lib.hid hbX
  clear hg hl hv hln
  cases h1 : shortB gs with
  | false =>
    rw [h1] at SW
    have SW := Lib.hid SW
    clear FW h h1
    go_enter Tryz.func3, Tryz.ntmps3
    go_wp2_with (first
      | (go_at_call 5; ((with_reducible refine (SW.out _ hbX).mono ?_); rintro _ w1 ⟨rfl, rfl⟩))
      | (go_at_call 7; ((with_reducible refine (awake26 _).mono ?_); rintro _ w2 ⟨rfl, hb2⟩)))
    go_ret
    exact ⟨rfl, bel2' HBX.out hb2⟩
  | true =>
    rw [h1] at SW h
    have SW := Lib.hid SW
    cases h2 : fewB L with
    | false =>
      rw [h2] at FW
      have FW := Lib.hid FW
      clear h h1 h2
      go_enter Tryz.func3, Tryz.ntmps3
      go_wp2_with (first
        | (go_at_call 5; ((with_reducible refine (SW.out _ hbX).mono ?_); rintro _ w1 ⟨rfl, rfl⟩))
        | (go_at_call 6; ((with_reducible refine (FW.out _ hbX).mono ?_); rintro _ w1 ⟨rfl, rfl⟩))
        | (go_at_call 7; ((with_reducible refine (awake26 _).mono ?_); rintro _ w2 ⟨rfl, hb2⟩)))
      go_ret
      exact ⟨rfl, bel2' HBX.out hb2⟩
    | true =>
      rw [h2] at FW h
      have FW := Lib.hid FW
      have h : 12 < ln ∨ 12 < C.n := by
        rcases h with h | h | h
        · cases h
        · cases h
        · exact h
      clear h1 h2
      by_cases h3 : 12 < ln
      · have q1 : (12 : Int) < (ln : Int) := by omega
        have q2 : decide ((12 : Int) < (ln : Int)) = true := decide_eq_true q1
        clear h
        go_enter Tryz.func3, Tryz.ntmps3
        go_wp2_with (first
          | (go_at_call 5; ((with_reducible refine (SW.out _ hbX).mono ?_); rintro _ w1 ⟨rfl, rfl⟩))
          | (go_at_call 6; ((with_reducible refine (FW.out _ hbX).mono ?_); rintro _ w1 ⟨rfl, rfl⟩))
          | (go_at_call 7; ((with_reducible refine (awake26 _).mono ?_); rintro _ w2 ⟨rfl, hb2⟩)))
        go_ret
        exact ⟨rfl, bel2' HBX.out hb2⟩
      · have q1 : ¬ (12 : Int) < (ln : Int) := by omega
        have q2 : decide ((12 : Int) < (ln : Int)) = false := decide_eq_false q1
        have q3 : (12 : Int) < (C.n : Int) := by omega
        have q4 : decide ((12 : Int) < (C.n : Int)) = true := decide_eq_true q3
        clear h
        go_enter Tryz.func3, Tryz.ntmps3
        go_wp2_with (first
          | (go_at_call 5; ((with_reducible refine (SW.out _ hbX).mono ?_); rintro _ w1 ⟨rfl, rfl⟩))
          | (go_at_call 6; ((with_reducible refine (FW.out _ hbX).mono ?_); rintro _ w1 ⟨rfl, rfl⟩))
          | (go_at_call 7; ((with_reducible refine (awake26 _).mono ?_); rintro _ w2 ⟨rfl, hb2⟩)))
        go_ret
        exact ⟨rfl, bel2' HBX.out hb2⟩

set_option maxRecDepth 100000 in
set_option maxHeartbeats 4000000 in
theorem counts_raw (n code : Int) (hg : PileAt w vg gs) (hl : IntsAt w vl lots) (hv : GridAt w v L) (h1 : shortB gs = true) (h2 : fewB L = true) (h3 : lots.length ≤ 12) (h4 : C.n ≤ 12) :
    Calls Tryz.prog 3 #[conC C, vg, vl, .bool true, .int .i64 n, .int .i64 code, v] w fun e w' => e = .returned (.bool true) ∧ Below w.heap.size w w' := by
  obtain ⟨m, s, cc, z, R, l, hR7, T1, T2⟩ := trs_both (C := C) (by omega) hg hl
  obtain ⟨pl, cl, rfl⟩ := hl.shape
  obtain ⟨ln, hln⟩ : ∃ n, lots.length = n := ⟨_, rfl⟩
  rw [hln] at h3 T1 T2 ⊢
  have SW := Lib.hid (fun wq (h : Below w.heap.size w wq) => short_gc (hg.keep h))
  have FW := Lib.hid (fun wq (h : Below w.heap.size w wq) => few_c (hv.keep h))
  rw [h1] at SW
  rw [h2] at FW
  have q1 : ¬ (12 : Int) < (ln : Int) := by omega
  have q2 : decide ((12 : Int) < (ln : Int)) = false := decide_eq_false q1
  have q3 : ¬ (12 : Int) < (C.n : Int) := by omega
  have q4 : decide ((12 : Int) < (C.n : Int)) = false := decide_eq_false q3
  have qz : (z == z) = true := by simp
  unfold conC conV at T1 T2 ⊢
  have C1 := Lib.hid T1
  have C2 := Lib.hid T2
  have hbA : Below w.heap.size w (w.alloc (.cells #[C.nm, .slice C.p C.n C.c, .int .i64 C.cm, .int .i64 C.seats, .int .i64 C.ranks, .int .i64 C.digits, .int .i64 C.ties, .int .i64 C.over, .int .i64 C.skip] 24)) := (Below.refl _ _).alloc (Nat.le_refl _) _
  have KC := Blk.new w #[C.nm, .slice C.p C.n C.c, .int .i64 C.cm, .int .i64 C.seats, .int .i64 C.ranks, .int .i64 C.digits, .int .i64 C.ties, .int .i64 C.over, .int .i64 C.skip] 24
  obtain ⟨W0, hW0⟩ : ∃ W, w.alloc (.cells #[C.nm, .slice C.p C.n C.c, .int .i64 C.cm, .int .i64 C.seats, .int .i64 C.ranks, .int .i64 C.digits, .int .i64 C.ties, .int .i64 C.over, .int .i64 C.skip] 24) = W := ⟨_, rfl⟩
  rw [hW0] at hbA KC
  obtain ⟨x0, x1, x2, x3, x4, x5, x6, x7, x8⟩ := nine_cells KC
  have KC := Lib.hid KC
  clear hg hl hv h1 h2 hln T1 T2
  go_enter Tryz.func3, Tryz.ntmps3
  go_wp2_with (first
      | (go_at_call 5; ((with_reducible refine (SW.out _ hbA).mono ?_); rintro _ w1 ⟨rfl, rfl⟩))
      | (go_at_call 6; ((with_reducible refine (FW.out _ hbA).mono ?_); rintro _ w1 ⟨rfl, rfl⟩))
      | (go_at_call 12; ((with_reducible refine (C1.out _ hbA).mono ?_); rintro _ w10 ⟨_, rfl, ⟨pr1, nr1, cr1, pw1, nw1, cw1, rfl, hr1, hi1⟩, hb10⟩; have a10 : Below w10.heap.size w10 (w10.alloc (.cells #[.int .i64 m, .int .i64 s, .int .i64 0, .int .i64 cc, .slice pr1 nr1 cr1, .slice pw1 nw1 cw1] 37)) := below_al (Below.refl _ _) _; have KA := Blk.new w10 #[.int .i64 m, .int .i64 s, .int .i64 0, .int .i64 cc, .slice pr1 nr1 cr1, .slice pw1 nw1 cw1] 37; obtain ⟨WA, hWA⟩ : ∃ W, w10.alloc (.cells #[.int .i64 m, .int .i64 s, .int .i64 0, .int .i64 cc, .slice pr1 nr1 cr1, .slice pw1 nw1 cw1] 37) = W := ⟨_, rfl⟩; obtain ⟨TA, hTA⟩ : ∃ T, w10.heap.size = T := ⟨_, rfl⟩; rw [hWA] at a10 KA; rw [hTA] at KA; have hbAA := bel2' hb10 a10; have hbWA := bel2' hbA hbAA; have HR1 := Lib.hid (hr1.keep a10); have HI1 := Lib.hid (hi1.keep a10); have KA := Lib.hid KA; clear hr1 hi1; obtain ⟨e0, e1, e2, e3, e4, e5, e6, e7, e8⟩ := nine_cells (KC.out.keep hbAA)))
      | (go_at_call 13; ((with_reducible refine (C2.out _ hbWA).mono ?_); rintro _ w11 ⟨_, rfl, ⟨pr2, nr2, cr2, pw2, nw2, cw2, rfl, hr2, hi2⟩, hb11⟩; have a11 : Below w11.heap.size w11 (w11.alloc (.cells #[.int .i64 m, .int .i64 s, .int .i64 0, .int .i64 cc, .slice pr2 nr2 cr2, .slice pw2 nw2 cw2] 37)) := below_al (Below.refl _ _) _; have KB := Blk.new w11 #[.int .i64 m, .int .i64 s, .int .i64 0, .int .i64 cc, .slice pr2 nr2 cr2, .slice pw2 nw2 cw2] 37; obtain ⟨WB, hWB⟩ : ∃ W, w11.alloc (.cells #[.int .i64 m, .int .i64 s, .int .i64 0, .int .i64 cc, .slice pr2 nr2 cr2, .slice pw2 nw2 cw2] 37) = W := ⟨_, rfl⟩; obtain ⟨TB, hTB⟩ : ∃ T, w11.heap.size = T := ⟨_, rfl⟩; rw [hWB] at a11 KB; rw [hTB] at KB; have hbBB := bel2' hb11 a11; have hbWB := bel2' hbWA hbBB; have HR2 := Lib.hid (hr2.keep a11); have HI2 := Lib.hid (hi2.keep a11); have KB := Lib.hid KB; clear hr2 hi2))
      | (go_at_call 7; ((with_reducible refine (awake26 _).mono ?_); rintro _ w12 ⟨rfl, hb12⟩; have hbA12 := bel2' hbBB hb12; obtain ⟨u0, u1, u2, u3, u4, u5⟩ := cells6 (KA.out.keep hbA12); obtain ⟨y0, y1, y2, y3, y4, y5⟩ := cells6 (KB.out.keep hb12); have hbW12 := bel2' hbWB hb12))
      | (go_at_call 14; ((with_reducible refine (requal_c (HR1.out.keep hbA12) (HR2.out.keep hb12) (HI1.out.keep hbA12) (HI2.out.keep hb12) hR7).mono ?_); rintro _ w13 ⟨rfl, hb13⟩)))
  go_ret
  exact ⟨rfl, bel2' hbW12 hb13⟩

theorem blk9 {b : Nat} {w : World} {x0 x1 x2 x3 x4 x5 x6 x7 x8 : Value} (h : Blk b #[x0, x1, x2, x3, x4, x5, x6, x7, x8] w) (y0 y1 y2 y3 y4 y5 y6 y7 y8 : Value) :
    Blk b #[y0, y1, y2, y3, y4, y5, y6, y7, y8] (((((((((w.setCell ⟨b, 0, none⟩ y0).setCell ⟨b, 1, none⟩ y1).setCell ⟨b, 2, none⟩ y2).setCell ⟨b, 3, none⟩ y3).setCell ⟨b, 4, none⟩ y4).setCell ⟨b, 5, none⟩ y5).setCell ⟨b, 6, none⟩ y6).setCell ⟨b, 7, none⟩ y7).setCell ⟨b, 8, none⟩ y8) :=
  blk_put (blk_put (blk_put (blk_put (blk_put (blk_put (blk_put (blk_put (blk_put h (o := 0) (by simp) y0) (o := 1) (by simp) y1) (o := 2) (by simp) y2) (o := 3) (by simp) y3) (o := 4) (by simp) y4) (o := 5) (by simp) y5) (o := 6) (by simp) y6) (o := 7) (by simp) y7) (o := 8) (by simp) y8
theorem below9 {b B : Nat} {w0 w : World} (h : Below B w0 w) (hb : B ≤ b) (y0 y1 y2 y3 y4 y5 y6 y7 y8 : Value) :
    Below B w0 (((((((((w.setCell ⟨b, 0, none⟩ y0).setCell ⟨b, 1, none⟩ y1).setCell ⟨b, 2, none⟩ y2).setCell ⟨b, 3, none⟩ y3).setCell ⟨b, 4, none⟩ y4).setCell ⟨b, 5, none⟩ y5).setCell ⟨b, 6, none⟩ y6).setCell ⟨b, 7, none⟩ y7).setCell ⟨b, 8, none⟩ y8) := by
  have one : ∀ {w : World} (j : Nat) (v : Value), Below B w0 w → Below B w0 (w.setCell ⟨b, j, none⟩ v) := fun {w} j v h => h.setCell (p := ⟨b, j, none⟩) hb v
  exact one _ _ (one _ _ (one _ _ (one _ _ (one _ _ (one _ _ (one _ _ (one _ _ (one _ _ h))))))))
theorem nine_frees {b : Nat} {cs : Array Value} {w : World} (h : Blk b cs w) : w.frozen? ⟨b, 0, none⟩ = false ∧ w.frozen? ⟨b, 1, none⟩ = false ∧ w.frozen? ⟨b, 2, none⟩ = false ∧ w.frozen? ⟨b, 3, none⟩ = false ∧ w.frozen? ⟨b, 4, none⟩ = false ∧ w.frozen? ⟨b, 5, none⟩ = false ∧ w.frozen? ⟨b, 6, none⟩ = false ∧ w.frozen? ⟨b, 7, none⟩ = false ∧ w.frozen? ⟨b, 8, none⟩ = false :=
  ⟨h.2.2 0, h.2.2 1, h.2.2 2, h.2.2 3, h.2.2 4, h.2.2 5, h.2.2 6, h.2.2 7, h.2.2 8⟩

set_option maxRecDepth 100000 in
set_option maxHeartbeats 8000000 in
theorem counts_made (n code : Int) (hc1 : -9223372036854775808 ≤ code) (hc2 : code ≤ 9223372036854775807) (hg : PileAt w vg gs) (hl : IntsAt w vl lots) (hv : GridAt w v L) (h1 : shortB gs = true) (h2 : fewB L = true) (h3 : lots.length ≤ 12) (h4 : C.n ≤ 12) :
    Calls Tryz.prog 3 #[conC C, vg, vl, .bool false, .int .i64 n, .int .i64 code, v] w fun e w' => e = .returned (.bool true) ∧ Below w.heap.size w w' := by
  obtain ⟨hf1, hf2⟩ := few_true.1 h2
  obtain ⟨pl, cl, rfl⟩ := hl.shape
  obtain ⟨ln, hln⟩ : ∃ n, lots.length = n := ⟨_, rfl⟩
  rw [hln] at h3 ⊢
  have SW := Lib.hid (fun wq (h : Below w.heap.size w wq) => short_gc (hg.keep h))
  have FW := Lib.hid (fun wq (h : Below w.heap.size w wq) => few_c (hv.keep h))
  rw [h1] at SW
  rw [h2] at FW
  have q1 : ¬ (12 : Int) < (ln : Int) := by omega
  have q2 : decide ((12 : Int) < (ln : Int)) = false := decide_eq_false q1
  have q3 : ¬ (12 : Int) < (C.n : Int) := by omega
  have q4 : decide ((12 : Int) < (C.n : Int)) = false := decide_eq_false q3
  obtain ⟨k, hk, k1, k7⟩ := mod_one n 7 (by omega)
  obtain ⟨z7, hz⟩ : ∃ z, n % ((7 : Nat) : Int) = z := ⟨_, rfl⟩
  rw [hz] at hk
  have M7 : Hid (∀ w, Calls Tryz.prog 8 #[.int .i64 n, .int .i64 7] w fun e w' => e = .returned (.int .i64 z7) ∧ w = w') := Lib.hid (fun w => by rw [← hz]; exact mod_c n 7 (by omega) (by omega) w)
  have e2k : IntKind.i64.wrap (k : Int) = k := w64 (by omega) (by omega)
  obtain ⟨T, hT⟩ : ∃ T, 1 + C.ties % 3 = T := ⟨_, rfl⟩
  have CO : Hid (∀ wq, Calls Tryz.prog 9 #[.int .i64 0, .int .i64 k, .int .i64 0, .int .i64 0, .int .i64 C.ties] wq fun e w' => ∃ p c, e = .returned (conC (conM p k c T)) ∧ Below wq.heap.size wq w') := Lib.hid (fun wq => by rw [← hT]; exact contest_c k (by omega) C.ties wq)
  have PL := Lib.hid (fun wq (h : Below w.heap.size w wq) => mpile_c (hv.keep h) k1 k7 hf1 hf2)
  obtain ⟨gs2, hgs⟩ : ∃ gs, pileB k L = gs := ⟨_, rfl⟩
  rw [hgs] at PL
  have P1 := Lib.hid (fun wq => perm_x k (by omega) code hc1 hc2 wq)
  obtain ⟨lots2, hlo⟩ : ∃ l, permS k code = l := ⟨_, rfl⟩
  rw [hlo] at P1
  have TB := Lib.hid (fun (wq : World) (p : Option Addr) (c : Nat) (vg vl : Value) (h1 : PileAt wq vg gs2) (h2 : IntsAt wq vl lots2) => trs_both (C := conM p k c T) (by show k ≤ 1000; omega) h1 h2)
  unfold conC conM conV nmV at CO TB
  simp only at CO TB
  unfold conC conV
  have hb0 : Below w.heap.size w (w.alloc (.cells #[C.nm, .slice C.p C.n C.c, .int .i64 C.cm, .int .i64 C.seats, .int .i64 C.ranks, .int .i64 C.digits, .int .i64 C.ties, .int .i64 C.over, .int .i64 C.skip] 24)) := (Below.refl _ _).alloc (Nat.le_refl _) _
  have KX := Blk.new w #[C.nm, .slice C.p C.n C.c, .int .i64 C.cm, .int .i64 C.seats, .int .i64 C.ranks, .int .i64 C.digits, .int .i64 C.ties, .int .i64 C.over, .int .i64 C.skip] 24
  obtain ⟨W0, hW0⟩ : ∃ W, w.alloc (.cells #[C.nm, .slice C.p C.n C.c, .int .i64 C.cm, .int .i64 C.seats, .int .i64 C.ranks, .int .i64 C.digits, .int .i64 C.ties, .int .i64 C.over, .int .i64 C.skip] 24) = W := ⟨_, rfl⟩
  rw [hW0] at hb0 KX
  obtain ⟨X, hX⟩ : ∃ X, w.heap.size = X := ⟨_, rfl⟩
  have HX := Lib.hid hX
  obtain ⟨x0, x1, x2, x3, x4, x5, x6, x7, x8⟩ := nine_cells KX
  have KX := Lib.hid KX
  have hXle : w.heap.size ≤ X := by omega
  rw [hX] at KX x0 x1 x2 x3 x4 x5 x6 x7 x8
  clear hg hl hv h1 h2 hln hz hT hgs hlo hf1 hf2
  go_enter Tryz.func3, Tryz.ntmps3
  go_upto_region 7 with (first
      | (go_at_call 5; ((with_reducible refine (SW.out _ hb0).mono ?_); rintro _ w1 ⟨rfl, rfl⟩))
      | (go_at_call 6; ((with_reducible refine (FW.out _ hb0).mono ?_); rintro _ w1 ⟨rfl, rfl⟩))
      | (go_at_call 8; ((with_reducible refine (M7.out _).mono ?_); rintro _ w2 ⟨rfl, rfl⟩))
      | (go_at_call 9; ((with_reducible refine (CO.out _).mono ?_); rintro _ w4 ⟨p, c, rfl, hb4⟩; have KX4 := KX.out.keep hb4; obtain ⟨g0, g1, g2, g3, g4, g5, g6, g7, g8⟩ := nine_cells KX4; obtain ⟨f0, f1, f2, f3, f4, f5, f6, f7, f8⟩ := nine_frees KX4; have KX5 := blk9 KX4 (.string ⟨#[99]⟩) (.slice p k c) (.int .i64 1) (.int .i64 1) (.int .i64 0) (.int .i64 0) (.int .i64 T) (.int .i64 0) (.int .i64 0); have hb5 := below9 (bel2' hb0 hb4) hXle (.string ⟨#[99]⟩) (.slice p k c) (.int .i64 1) (.int .i64 1) (.int .i64 0) (.int .i64 0) (.int .i64 T) (.int .i64 0) (.int .i64 0); obtain ⟨W5, hW5⟩ : ∃ W, (((((((((w4.setCell ⟨X, 0, none⟩ (.string ⟨#[99]⟩)).setCell ⟨X, 1, none⟩ (.slice p k c)).setCell ⟨X, 2, none⟩ (.int .i64 1)).setCell ⟨X, 3, none⟩ (.int .i64 1)).setCell ⟨X, 4, none⟩ (.int .i64 0)).setCell ⟨X, 5, none⟩ (.int .i64 0)).setCell ⟨X, 6, none⟩ (.int .i64 T)).setCell ⟨X, 7, none⟩ (.int .i64 0)).setCell ⟨X, 8, none⟩ (.int .i64 0)) = W := ⟨_, rfl⟩; rw [hW5] at KX5 hb5; have KX5 := Lib.hid KX5; clear KX4))
      | (go_at_call 10; ((with_reducible refine (PL.out _ hb5).mono ?_); rintro _ w6 ⟨v6, rfl, h6, hb6⟩))
      | (go_at_call 11; ((with_reducible refine (P1.out _).mono ?_); rintro _ w7 ⟨v7, rfl, h7, _, hb7⟩)))
  have hbw7 := bel2' (bel2' hb5 hb6) hb7
  have KC := KX5.out.keep (bel2' hb6 hb7)
  obtain ⟨m, s, cc, z, R, l, hR7, T1, T2⟩ := TB.out w7 p c _ _ (h6.keep hb7) h7
  have qz : (z == z) = true := by simp
  obtain ⟨j0, j1, j2, j3, j4, j5, j6, j7, j8⟩ := nine_cells KC
  have KC := Lib.hid KC
  have C1 := Lib.hid T1
  have C2 := Lib.hid T2
  have hbA : Below w7.heap.size w7 w7 := Below.refl _ _
  clear T1 T2 h6 h7 hb5 hb6 hb7 hW5 g0 g1 g2 g3 g4 g5 g6 g7 g8 f0 f1 f2 f3 f4 f5 f6 f7 f8 x0 x1 x2 x3 x4 x5 x6 x7 x8
  go_wp2_with (first
      | (go_at_call 12; ((with_reducible refine (C1.out _ hbA).mono ?_); rintro _ w10 ⟨_, rfl, ⟨pr1, nr1, cr1, pw1, nw1, cw1, rfl, hr1, hi1⟩, hb10⟩; have a10 : Below w10.heap.size w10 (w10.alloc (.cells #[.int .i64 m, .int .i64 s, .int .i64 0, .int .i64 cc, .slice pr1 nr1 cr1, .slice pw1 nw1 cw1] 37)) := below_al (Below.refl _ _) _; have KA := Blk.new w10 #[.int .i64 m, .int .i64 s, .int .i64 0, .int .i64 cc, .slice pr1 nr1 cr1, .slice pw1 nw1 cw1] 37; obtain ⟨WA, hWA⟩ : ∃ W, w10.alloc (.cells #[.int .i64 m, .int .i64 s, .int .i64 0, .int .i64 cc, .slice pr1 nr1 cr1, .slice pw1 nw1 cw1] 37) = W := ⟨_, rfl⟩; obtain ⟨TA, hTA⟩ : ∃ T, w10.heap.size = T := ⟨_, rfl⟩; rw [hWA] at a10 KA; rw [hTA] at KA; have hbAA := bel2' hb10 a10; have hbWA := bel2' hbA hbAA; have HR1 := Lib.hid (hr1.keep a10); have HI1 := Lib.hid (hi1.keep a10); have KA := Lib.hid KA; clear hr1 hi1; obtain ⟨e0, e1, e2, e3, e4, e5, e6, e7, e8⟩ := nine_cells (KC.out.keep hbAA)))
      | (go_at_call 13; ((with_reducible refine (C2.out _ hbWA).mono ?_); rintro _ w11 ⟨_, rfl, ⟨pr2, nr2, cr2, pw2, nw2, cw2, rfl, hr2, hi2⟩, hb11⟩; have a11 : Below w11.heap.size w11 (w11.alloc (.cells #[.int .i64 m, .int .i64 s, .int .i64 0, .int .i64 cc, .slice pr2 nr2 cr2, .slice pw2 nw2 cw2] 37)) := below_al (Below.refl _ _) _; have KB := Blk.new w11 #[.int .i64 m, .int .i64 s, .int .i64 0, .int .i64 cc, .slice pr2 nr2 cr2, .slice pw2 nw2 cw2] 37; obtain ⟨WB, hWB⟩ : ∃ W, w11.alloc (.cells #[.int .i64 m, .int .i64 s, .int .i64 0, .int .i64 cc, .slice pr2 nr2 cr2, .slice pw2 nw2 cw2] 37) = W := ⟨_, rfl⟩; obtain ⟨TB, hTB⟩ : ∃ T, w11.heap.size = T := ⟨_, rfl⟩; rw [hWB] at a11 KB; rw [hTB] at KB; have hbBB := bel2' hb11 a11; have hbWB := bel2' hbWA hbBB; have HR2 := Lib.hid (hr2.keep a11); have HI2 := Lib.hid (hi2.keep a11); have KB := Lib.hid KB; clear hr2 hi2))
      | (go_at_call 7; ((with_reducible refine (awake26 _).mono ?_); rintro _ w12 ⟨rfl, hb12⟩; have hbA12 := bel2' hbBB hb12; obtain ⟨u0, u1, u2, u3, u4, u5⟩ := cells6 (KA.out.keep hbA12); obtain ⟨y0, y1, y2, y3, y4, y5⟩ := cells6 (KB.out.keep hb12); have hbW12 := bel2' hbWB hb12))
      | (go_at_call 14; ((with_reducible refine (requal_c (HR1.out.keep hbA12) (HR2.out.keep hb12) (HI1.out.keep hbA12) (HI2.out.keep hb12) hR7).mono ?_); rintro _ w13 ⟨rfl, hb13⟩)))
  go_ret
  exact ⟨rfl, bel2' hbw7 (bel2' hbW12 hb13)⟩

theorem walk_IrvCounts (hg : PileAt w vg gs) (hl : IntsAt w vl lots) (raw : Bool) (n code : Int) (hc1 : -9223372036854775808 ≤ code) (hc2 : code ≤ 9223372036854775807) (hv : GridAt w v L) :
    Calls Tryz.prog 3 #[conC C, vg, vl, .bool raw, .int .i64 n, .int .i64 code, v] w fun e w' => e = .returned (.bool true) ∧ Below w.heap.size w w' := by
  by_cases h : shortB gs = true ∧ fewB L = true ∧ lots.length ≤ 12 ∧ C.n ≤ 12
  · cases raw
    · exact counts_made n code hc1 hc2 hg hl hv h.1 h.2.1 h.2.2.1 h.2.2.2
    · exact counts_raw n code hg hl hv h.1 h.2.1 h.2.2.1 h.2.2.2
  · refine counts_out raw n code hg hl hv ?_
    cases h1 : shortB gs
    · exact .inl rfl
    · cases h2 : fewB L
      · exact .inr (.inl rfl)
      · refine .inr (.inr ?_)
        by_cases h3 : 12 < lots.length
        · exact .inl h3
        · exact .inr (Nat.lt_of_not_le fun h4 => h ⟨h1, h2, by omega, h4⟩)
end

end Go.Proofs.YtbnhgmikegdppaaGreat

/- electionmake.Perm: its row can be written. -/
namespace Go.Proofs.YtbnhgmikegdppaaGreat
open Go.RowKit Go.Proofs.Kit Go.Proofs.Nums

/-- The block of a row is not shared with a string. -/
def FreeV (v : Value) (w : World) : Prop := ∀ g o n c, v = .slice (some ⟨g, o, none⟩) n c → ∀ j, w.frozen? ⟨g, j, none⟩ = false
theorem FreeV.nil {w : World} : FreeV (.slice none 0 0) w := fun g o n c h => by simp at h
theorem FreeV.owned {w : World} {base : Nat} {e : TypeId} {v : Value} {n : Nat} {cs : List Value} (h : w.ownsRow base e 1 v n cs) : FreeV v w := by
  rintro g o m c rfl j
  rcases h.2 with ⟨h0, _⟩ | ⟨g', cap, cur, h0, _⟩
  · simp at h0
  · simp only [Value.slice.injEq, Option.some.injEq, Addr.mk.injEq, and_true] at h0
    obtain ⟨⟨rfl, rfl⟩, rfl, rfl⟩ := h0
    exact h.frozenAt j
set_option maxRecDepth 100000 in
set_option maxHeartbeats 8000000 in
theorem perm_d (n : Nat) (hn : n ≤ 12) (code : Int) (hc1 : -9223372036854775808 ≤ code) (hc2 : code ≤ 9223372036854775807) (w : World) :
    Calls Tryz.prog 11 #[.int .i64 n, .int .i64 code] w fun e w' => ∃ v, e = .returned v ∧ (∃ c, PermAt w.heap.size n code c n v w' ∧ FreeV v w') ∧ Below w.heap.size w w' := by
  go_enter Tryz.func11, Tryz.ntmps11
  go_wp2_with fail
  go_loopw [1, 5, 6, 7] (fun cv ov iv _ wr => ∃ c : Int, ∃ i : Nat, i ≤ n ∧ -9223372036854775808 ≤ c ∧ c ≤ 9223372036854775807 ∧ cv = .int .i64 c ∧ iv = .int .i64 i ∧ Hid (PermAt w.heap.size n code c i ov wr ∧ FreeV ov wr) ∧ Below w.heap.size w wr) (fun _ _ iv _ _ => n - (intOf iv).toNat)
  case atStart => exact ⟨code, 0, by omega, hc1, hc2, rfl, rfl, Lib.hid ⟨⟨[], RowAt.nil _, rfl, fun x hx => by simp at hx, Fresh.nil _, fun _ => rfl, rfl⟩, FreeV.nil⟩, Below.refl _ _⟩
  case round =>
    obtain ⟨c, i, hi, g1, g2, rfl, rfl, hP, hbel⟩ := hrel
    by_cases hlt : i < n
    · obtain ⟨m1, hm1⟩ : ∃ x, (i : Int) + 1 = x := ⟨_, rfl⟩
      have e1 : 1 ≤ m1 := by omega
      have e2 : m1 ≤ 13 := by omega
      have hk1 := Int.emod_nonneg c (show m1 ≠ 0 by omega)
      have hk2 := Int.emod_lt_of_pos c (show 0 < m1 by omega)
      obtain ⟨kz, hkz⟩ : ∃ x, c % m1 = x := ⟨_, rfl⟩
      rw [hkz] at hk1 hk2
      have C : Hid (∀ w, Calls Tryz.prog 8 #[.int .i64 c, .int .i64 m1] w fun e w' => e = .returned (.int .i64 kz) ∧ w = w') := Lib.hid (fun w => by rw [← hkz]; exact mod_c c m1 (by omega) (by omega) w)
      have hq : (c.tdiv m1).natAbs ≤ c.natAbs := by rw [Int.natAbs_tdiv]; exact Nat.div_le_self _ _
      obtain ⟨qq, hqq⟩ : ∃ x, c.tdiv m1 = x := ⟨_, rfl⟩
      have hq3 : -9223372036854775808 ≤ qq ∧ qq ≤ 9223372036854775807 := by
        rw [← hqq]
        by_cases h0 : 0 ≤ c
        · have := Int.tdiv_nonneg h0 (show 0 ≤ m1 by omega)
          omega
        · have h3 := Int.tdiv_nonneg (show 0 ≤ -c by omega) (show 0 ≤ m1 by omega)
          rw [Int.neg_tdiv] at h3
          omega
      obtain ⟨q1, q2⟩ := hq3
      have uq : IntKind.i64.wrap qq = qq := w64 q1 q2
      have z1 : ¬ m1 = 0 := by omega
      have z2 : (m1 == 0) = false := by rw [beq_eq_false_iff_ne]; omega
      obtain ⟨k, hk⟩ : ∃ k : Nat, kz = k := ⟨kz.toNat, by omega⟩
      subst hk
      have hki : k ≤ i := by omega
      have HS : Hid (∀ l : List Int, permSt code i = (l, c) → permSt code (i + 1) = (l.take k ++ [(i : Int)] ++ l.drop k, qq)) := Lib.hid (fun l hl => by
        simp only [permSt, hl]
        rw [hm1, hkz, hqq, Int.toNat_natCast])
      have HQ : Hid (m1 = 1 → qq = c) := Lib.hid (fun e => by rw [← hqq, e, Int.tdiv_one])
      clear hkz hq hk1 hk2
      obtain ⟨l, hl, hlen, hmem, hfr, hnil, hst⟩ := hP.out.1
      have HL := Lib.hid hst
      have hins : Hid (∀ x ∈ l.take k ++ [(i : Int)] ++ l.drop k, 0 ≤ x ∧ x < (n : Int)) := Lib.hid (mem_ins hmem (by omega) (by omega))
      have hlen2 : Hid ((l.take k ++ [(i : Int)] ++ l.drop k).length = i + 1) := Lib.hid (by simp only [List.length_append, List.length_take, List.length_drop, List.length_singleton]; omega)
      by_cases hi0 : i = 0
      · subst hi0
        obtain rfl : k = 0 := by omega
        have hv := hnil rfl
        have hl0 : l = [] := List.eq_nil_of_length_eq_zero hlen
        subst hl0
        subst hv
        obtain rfl : m1 = 1 := by omega
        have uc : IntKind.i64.wrap c = c := w64 g1 g2
        obtain ⟨T, hT⟩ : ∃ T : List Value, (([] : List Int).take 0).map (Value.int .i64) = T := ⟨_, rfl⟩
        obtain ⟨D, hD⟩ : ∃ D : List Value, (([] : List Int).drop 0).map (Value.int .i64) = D := ⟨_, rfl⟩
        have lT : T.length = 0 := by rw [← hT]; rfl
        have lD : D.length = 0 := by rw [← hD]; rfl
        have HT : Hid (RowAt wr (.slice none 0 0) T) := Lib.hid (by rw [← hT]; exact RowAt.nil _)
        have HD : Hid (RowAt wr (.slice none 0 0) D) := Lib.hid (by rw [← hD]; exact RowAt.nil _)
        have HO : Hid (∀ u ∈ T, u.oneCell' = true) := Lib.hid (by rw [← hT]; exact ints_one _)
        have HO2 : Hid (∀ u ∈ D, u.oneCell' = true) := Lib.hid (by rw [← hD]; exact ints_one _)
        have HO1 : Hid (∀ u ∈ [Value.int .i64 (0 : Int)], u.oneCell' = true) := Lib.hid (fun u hu => by rw [List.mem_singleton.1 hu]; rfl)
        have HTD := Lib.hid (And.intro hT hD)
        clear hP hl hlen hmem hfr hnil hst hqq uq hT hD hm1
        go_wp2_with (first
          | (go_at_call 8; ((with_reducible refine (C.out _).mono ?_); rintro e w1 ⟨rfl, rfl⟩)))
        go_region_law (first
          | (refine step_append_read erI (by rfl) (by rfl) (World.ownsRow_nil _ _ _ _) (by rfl) (xv := .slice none 0 0) ?_ (by rfl) HO.out ?_ ?_ (Nat.le_refl _) ?_; (first | exact HT.out.keep (Below.refl _ _).drew | exact (HT.out.keep (Below.refl _ _).drew).alloc _); omega; omega; intro v1 w1 hown1 hb1; have hB1 : Below wr.heap.size wr w1 := (by first | exact bel2' (Below.refl _ _).drew hb1 | exact bel2' (bal (Below.refl _ _).drew _) hb1))
          | (refine step_append_read erI (by rfl) (by rfl) (by first | exact hown1 | exact ownsRow_below hown1 ((Below.refl _ _).alloc (Nat.le_refl _) _)) (by rfl) (cs := [Value.int .i64 (0 : Int)]) ?_ (by rfl) HO1.out ?_ ?_ ?_ ?_; (first | exact one_row w1 _ _ | exact ((one_row wr _ _).keep (Below.refl _ _).drew).keep hb1); (simp only [List.length_singleton]; omega); (simp only [List.length_singleton]; omega); (first | exact hb1.size | exact Nat.le_trans hb1.size (by simp)); intro v2 w2 hown2 hb2; have hB2 : Below wr.heap.size wr w2 := (by first | exact hB1.trans (hb2.mono (by simp)) | exact (bal hB1 _).trans (hb2.mono (by simp))))
          | (refine step_append_read erI (by rfl) (by rfl) hown2 (by rfl) (xv := .slice none 0 0) ?_ (by rfl) HO2.out ?_ ?_ ?_ ?_; exact HD.out.keep hB2; (simp only [List.length_singleton]; omega); (simp only [List.length_singleton]; omega); (first | exact hb2.size | exact Nat.le_trans (by first | exact hb1.size | exact Nat.le_trans hb1.size (by simp)) hb2.size); intro v3 w3 hown3 hb3; have hB3 : Below wr.heap.size wr w3 := hB2.trans (hb3.mono (by simp))))
        all_goals
          go_wp2_with fail
          have hrow : IntsAt w3 v3 (([] : List Int).take 0 ++ [((0 : Nat) : Int)] ++ ([] : List Int).drop 0) := by
            have h := RowAt.owned hown3
            rw [← HTD.out.1, ← HTD.out.2] at h
            show RowAt w3 v3 ((([] : List Int).take 0 ++ [((0 : Nat) : Int)] ++ ([] : List Int).drop 0).map (Value.int .i64))
            simpa [List.map_append, List.map_take, List.map_drop] using h
          have hfr : Fresh w.heap.size v3 := (Fresh.owned hown3).mono (by have := hbel.size; first | exact this | (simp; omega))
          go_roundw
          case rel => exact ⟨c, 0 + 1, by omega, by assumption, by assumption, rfl, by go_num, Lib.hid ⟨⟨_, hrow, hlen2.out, hins.out, hfr, fun h => absurd h (by omega), by have h := HS.out _ HL.out; rw [HQ.out (by first | rfl | trivial)] at h; exact h⟩, FreeV.owned hown3⟩, bel2' hbel hB3⟩
          case measure => simp [intOf] <;> omega
      · obtain ⟨p, cap, hsl⟩ := hl.shape
        subst hsl
        rw [hlen] at hl
        rw [hlen]
        have hrow : ∃ b off, p = some ⟨b, off, none⟩ ∧ i ≤ cap := by
          obtain ⟨b, off, e, h2, _⟩ := IntsAt.cellAt hl 0 (by omega)
          exact ⟨b, off, e, by omega⟩
        obtain ⟨b, off, rfl, hcap⟩ := hrow
        have s1 : (0 : Int) ≤ (k : Int) := by omega
        have s2 : (k : Int) ≤ (i : Int) := by omega
        have s3 : (k : Int) ≤ (cap : Int) := by omega
        have s4 : (i : Int) ≤ (cap : Int) := by omega
        have s5 : k ≤ i := hki
        have s6 : k ≤ cap := by omega
        have HT0 := RowAt.take hl k (by rw [List.length_map]; omega)
        obtain ⟨T, hT⟩ : ∃ T : List Value, (l.map (Value.int .i64)).take k = T := ⟨_, rfl⟩
        obtain ⟨D, hD⟩ : ∃ D : List Value, (l.map (Value.int .i64)).drop k = D := ⟨_, rfl⟩
        have lT : T.length = k := by rw [← hT, List.length_take, List.length_map]; omega
        have lD : D.length = i - k := by rw [← hD, List.length_drop, List.length_map]; omega
        have HO : Hid (∀ u ∈ T, u.oneCell' = true) := Lib.hid (by rw [← hT]; exact fun u hu => ints_one l u (List.mem_of_mem_take hu))
        have HO2 : Hid (∀ u ∈ D, u.oneCell' = true) := Lib.hid (by rw [← hD]; exact fun u hu => ints_one l u (List.mem_of_mem_drop hu))
        have HO1 : Hid (∀ u ∈ [Value.int .i64 (i : Int)], u.oneCell' = true) := Lib.hid (fun u hu => by rw [List.mem_singleton.1 hu]; rfl)
        rw [hT] at HT0
        have HT := Lib.hid HT0
        rcases Nat.eq_or_lt_of_le (show k ≤ cap by omega) with hck | hck
        · have hik : k = i := by omega
          subst hik
          subst hck
          have HD : Hid (RowAt wr (.slice (some ⟨b, off, none⟩) 0 0) D) := Lib.hid (by
            have : D = [] := List.eq_nil_of_length_eq_zero (by rw [lD]; omega)
            rw [this]; exact RowAt.empty (by omega) (fun h => by simp at h))
          have HTD := Lib.hid (And.intro hT hD)
          clear hP hl hlen hmem hfr hnil hst HT0 hT hD
          go_wp2_with (first
            | (go_at_call 8; ((with_reducible refine (C.out _).mono ?_); rintro e w1 ⟨rfl, rfl⟩)))
          go_region_law (first
            | (refine step_append_read erI (by rfl) (by rfl) (World.ownsRow_nil _ _ _ _) (by rfl) (xv := .slice (some ⟨b, off, none⟩) k k) ?_ (by rfl) HO.out ?_ ?_ (Nat.le_refl _) ?_; (first | exact HT.out.keep (Below.refl _ _).drew | exact (HT.out.keep (Below.refl _ _).drew).alloc _); omega; omega; intro v1 w1 hown1 hb1; have hB1 : Below wr.heap.size wr w1 := (by first | exact bel2' (Below.refl _ _).drew hb1 | exact bel2' (bal (Below.refl _ _).drew _) hb1))
            | (refine step_append_read erI (by rfl) (by rfl) (by first | exact hown1 | exact ownsRow_below hown1 ((Below.refl _ _).alloc (Nat.le_refl _) _)) (by rfl) (cs := [Value.int .i64 (k : Int)]) ?_ (by rfl) HO1.out ?_ ?_ ?_ ?_; (first | exact one_row w1 _ _ | exact ((one_row wr _ _).keep (Below.refl _ _).drew).keep hb1); (simp only [List.length_singleton]; omega); (simp only [List.length_singleton]; omega); (first | exact hb1.size | exact Nat.le_trans hb1.size (by simp)); intro v2 w2 hown2 hb2; have hB2 : Below wr.heap.size wr w2 := (by first | exact hB1.trans (hb2.mono (by simp)) | exact (bal hB1 _).trans (hb2.mono (by simp))))
            | (refine step_append_read erI (by rfl) (by rfl) hown2 (by rfl) (xv := .slice (some ⟨b, off, none⟩) 0 0) ?_ (by rfl) HO2.out ?_ ?_ ?_ ?_; exact HD.out.keep hB2; (simp only [List.length_singleton]; omega); (simp only [List.length_singleton]; omega); (first | exact hb2.size | exact Nat.le_trans (by first | exact hb1.size | exact Nat.le_trans hb1.size (by simp)) hb2.size); intro v3 w3 hown3 hb3; have hB3 : Below wr.heap.size wr w3 := hB2.trans (hb3.mono (by simp))))
          all_goals
            go_wp2_with fail
            have hrow : IntsAt w3 v3 (l.take k ++ [(k : Int)] ++ l.drop k) := by
              have h := RowAt.owned hown3
              rw [← HTD.out.1, ← HTD.out.2] at h
              show RowAt w3 v3 ((l.take k ++ [(k : Int)] ++ l.drop k).map (Value.int .i64))
              simpa [List.map_append, List.map_take, List.map_drop] using h
            have hfr : Fresh w.heap.size v3 := (Fresh.owned hown3).mono (by have := hbel.size; first | exact this | (simp; omega))
            go_roundw
            case rel => exact ⟨qq, k + 1, by omega, by assumption, by assumption, rfl, by go_num, Lib.hid ⟨⟨_, hrow, hlen2.out, hins.out, hfr, fun h => absurd h (by omega), HS.out _ HL.out⟩, FreeV.owned hown3⟩, bel2' hbel hB3⟩
            case measure => simp [intOf] <;> omega
        · have hck2 : ¬ cap = k := by omega
          have HD0 := RowAt.dropK hl k (by rw [List.length_map]; omega)
          rw [hD] at HD0
          have HD := Lib.hid HD0
          clear HD0
          have HTD := Lib.hid (And.intro hT hD)
          clear hP hl hlen hmem hfr hnil hst HT0 hT hD
          go_wp2_with (first
            | (go_at_call 8; ((with_reducible refine (C.out _).mono ?_); rintro e w1 ⟨rfl, rfl⟩)))
          go_region_law (first
            | (refine step_append_read erI (by rfl) (by rfl) (World.ownsRow_nil _ _ _ _) (by rfl) (xv := .slice (some ⟨b, off, none⟩) k cap) ?_ (by rfl) HO.out ?_ ?_ (Nat.le_refl _) ?_; (first | exact HT.out.keep (Below.refl _ _).drew | exact (HT.out.keep (Below.refl _ _).drew).alloc _); omega; omega; intro v1 w1 hown1 hb1; have hB1 : Below wr.heap.size wr w1 := (by first | exact bel2' (Below.refl _ _).drew hb1 | exact bel2' (bal (Below.refl _ _).drew _) hb1))
            | (refine step_append_read erI (by rfl) (by rfl) (by first | exact hown1 | exact ownsRow_below hown1 ((Below.refl _ _).alloc (Nat.le_refl _) _)) (by rfl) (cs := [Value.int .i64 (i : Int)]) ?_ (by rfl) HO1.out ?_ ?_ ?_ ?_; (first | exact one_row w1 _ _ | exact ((one_row wr _ _).keep (Below.refl _ _).drew).keep hb1); (simp only [List.length_singleton]; omega); (simp only [List.length_singleton]; omega); (first | exact hb1.size | exact Nat.le_trans hb1.size (by simp)); intro v2 w2 hown2 hb2; have hB2 : Below wr.heap.size wr w2 := (by first | exact hB1.trans (hb2.mono (by simp)) | exact (bal hB1 _).trans (hb2.mono (by simp))))
            | (refine step_append_read erI (by rfl) (by rfl) hown2 (by rfl) (xv := .slice (some ⟨b, off + k, none⟩) (i - k) (cap - k)) ?_ (by rfl) HO2.out ?_ ?_ ?_ ?_; exact HD.out.keep hB2; (simp only [List.length_singleton]; omega); (simp only [List.length_singleton]; omega); (first | exact hb2.size | exact Nat.le_trans (by first | exact hb1.size | exact Nat.le_trans hb1.size (by simp)) hb2.size); intro v3 w3 hown3 hb3; have hB3 : Below wr.heap.size wr w3 := hB2.trans (hb3.mono (by simp))))
          all_goals
            go_wp2_with fail
            have hrow : IntsAt w3 v3 (l.take k ++ [(i : Int)] ++ l.drop k) := by
              have h := RowAt.owned hown3
              rw [← HTD.out.1, ← HTD.out.2] at h
              show RowAt w3 v3 ((l.take k ++ [(i : Int)] ++ l.drop k).map (Value.int .i64))
              simpa [List.map_append, List.map_take, List.map_drop] using h
            have hfr : Fresh w.heap.size v3 := (Fresh.owned hown3).mono (by have := hbel.size; first | exact this | (simp; omega))
            go_roundw
            case rel => exact ⟨qq, i + 1, by omega, by assumption, by assumption, rfl, by go_num, Lib.hid ⟨⟨_, hrow, hlen2.out, hins.out, hfr, fun h => absurd h (by omega), HS.out _ HL.out⟩, FreeV.owned hown3⟩, bel2' hbel hB3⟩
            case measure => simp [intOf] <;> omega
    · obtain rfl : i = n := by omega
      go_wp2_with fail
      go_ret
      exact ⟨_, rfl, ⟨_, hP.out⟩, hbel⟩


theorem perm_o (n : Nat) (hn : n ≤ 12) (code : Int) (hc1 : -9223372036854775808 ≤ code) (hc2 : code ≤ 9223372036854775807) (w : World) :
    Calls Tryz.prog 11 #[.int .i64 n, .int .i64 code] w fun e w' => ∃ v, e = .returned v ∧ IntsAt w' v (permS n code) ∧ Fresh w.heap.size v ∧ FreeV v w' ∧ Below w.heap.size w w' :=
  (perm_d n hn code hc1 hc2 w).mono (by
    rintro e w' ⟨v, rfl, ⟨c, ⟨l, h1, _, _, h4, _, h6⟩, h7⟩, hb⟩
    have e1 : permS n code = l := by unfold permS; rw [h6]
    exact ⟨v, rfl, by rw [e1]; exact h1, h4, h7, hb⟩)

end Go.Proofs.YtbnhgmikegdppaaGreat

/- The walk of IrvOrder. -/
namespace Go.Proofs.Nums
theorem agree_at : ∀ {R : List Rnd} {o : List Int} {i : Nat}, Agree R o → i + 1 < R.length → ∃ r y, R[i]? = some r ∧ r.ex = [y] ∧ o[i]? = some y
  | [], _, _ => fun h _ => h.elim
  | [r], _, _ => fun _ hi => by simp at hi
  | r :: r' :: t, o, i => fun h hi => by
    obtain ⟨x, o', rfl, h1, _, h3⟩ := h
    cases i with
    | zero => exact ⟨r, x, rfl, h1, rfl⟩
    | succ i =>
      obtain ⟨r2, y, g1, g2, g3⟩ := agree_at (i := i) h3 (by simp only [List.length_cons] at hi ⊢; omega)
      exact ⟨r2, y, by simpa using g1, g2, by simpa using g3⟩
theorem agree_last : ∀ {R : List Rnd} {o : List Int}, Agree R o → ∃ r w, R.getLast? = some r ∧ r.el = [w] ∧ o.getLast? = some w
  | [], _ => fun h => h.elim
  | [r], o => fun h => by
    obtain ⟨w, h1, _, h3⟩ := h
    exact ⟨r, w, rfl, h1, h3⟩
  | r :: r' :: t, o => fun h => by
    obtain ⟨x, o', rfl, _, _, h3⟩ := h
    obtain ⟨r2, w, g1, g2, g3⟩ := agree_last h3
    refine ⟨r2, w, by rw [List.getLast?_cons_cons]; exact g1, g2, ?_⟩
    cases o' with
    | nil => simp at g3
    | cons a t' => rw [List.getLast?_cons_cons]; exact g3
end Go.Proofs.Nums
namespace Go.Proofs.YtbnhgmikegdppaaGreat
open Go.RowKit Go.Proofs.Kit Go.Proofs.Nums

theorem ints_put {w : World} {g o n c : Nat} {l : List Int} (h : IntsAt w (.slice (some ⟨g, o, none⟩) n c) l) (h0 : 0 < l.length) (x : Int) : IntsAt (w.setCell ⟨g, o, none⟩ (.int .i64 x)) (.slice (some ⟨g, o, none⟩) n c) (l.set 0 x) := by
  obtain ⟨p, cap, e, h1, h2, h3, h4⟩ := h
  simp only [Value.slice.injEq] at e
  obtain ⟨rfl, rfl, rfl⟩ := e
  refine ⟨_, _, by rw [List.length_map, List.length_map, List.length_set], by rw [List.length_map, List.length_set]; rw [List.length_map] at h1; exact h1, h2, h3, fun q hq i u hi => ?_⟩
  obtain rfl := Option.some.inj hq
  rw [Addr.add_lit]
  have hc := fun j u => h4 ⟨g, o, none⟩ rfl j u
  cases i with
  | zero =>
    have e0 := hc 0 (.int .i64 (l.getD 0 0)) (by rw [List.getElem?_map, List.getD_eq_getElem?_getD, List.getElem?_eq_getElem h0]; rfl)
    rw [Addr.add_lit] at e0
    have eu : u = .int .i64 x := by
      rw [List.getElem?_map, List.getElem?_set_self h0] at hi
      simpa using hi.symm
    subst eu
    exact cell_same e0
  | succ i =>
    rw [List.getElem?_map, List.getElem?_set_ne (by omega), ← List.getElem?_map] at hi
    have e0 := hc (i + 1) u hi
    rw [Addr.add_lit] at e0
    rw [cell_other (by omega)]
    exact e0
theorem spoil_fit {p : Option Addr} {k c : Nat} {T : Int} {gs : List Grp} {lots : List Int} (h1 : 1 ≤ k) (h7 : k ≤ 7) (t1 : 1 ≤ T) (t3 : T ≤ 3) (hp : PileP k gs) (hl : lots.length = k) : fitC (conM p k c T) gs (lots.set 0 (k : Int)) = 13 := by
  have hb : permB k (lots.set 0 (k : Int)) = false := by
    unfold permB
    rw [Bool.and_eq_false_iff]
    right
    unfold balS
    refine decide_eq_false fun h => ?_
    have hm : (k : Int) ∈ lots.set 0 (k : Int) := List.mem_iff_getElem?.2 ⟨0, by rw [List.getElem?_set_self (by omega)]⟩
    have := (h.1 _ hm).2
    omega
  show fitS k 1 1 0 T gs (lots.set 0 (k : Int)) = 13
  unfold fitS
  rw [if_pos rfl, if_pos ⟨h1, h7, rfl, rfl, t1, t3⟩, if_pos (pile_true.2 hp), hb, if_neg (by decide)]

section
variable {C : ConP} {v : Value} {L : List (List Int)} {w : World}
set_option maxRecDepth 100000 in
set_option maxHeartbeats 4000000 in
theorem order_out (n code spoil : Int) (hv : GridAt w v L) (h : fewB L = false ∨ 12 < C.n) :
    Calls Tryz.prog 4 #[conC C, .int .i64 n, .int .i64 code, v, .int .i64 spoil] w fun e w' => e = .returned (.bool true) ∧ Below w.heap.size w w' := by
  have FW := fun wq (h : Below w.heap.size w wq) => few_c (hv.keep h)
  unfold conC conV
  have hbX : Below w.heap.size w (w.alloc (.cells #[C.nm, .slice C.p C.n C.c, .int .i64 C.cm, .int .i64 C.seats, .int .i64 C.ranks, .int .i64 C.digits, .int .i64 C.ties, .int .i64 C.over, .int .i64 C.skip] 24)) := (Below.refl _ _).alloc (Nat.le_refl _) _
  obtain ⟨x0, x1, x2, x3, x4, x5, x6, x7, x8⟩ := nine_cells (Blk.new w #[C.nm, .slice C.p C.n C.c, .int .i64 C.cm, .int .i64 C.seats, .int .i64 C.ranks, .int .i64 C.digits, .int .i64 C.ties, .int .i64 C.over, .int .i64 C.skip] 24)
  have HBX := Lib.hid hbX
  clear hv
  cases h2 : fewB L with
  | false =>
    rw [h2] at FW
    have FW := Lib.hid FW
    clear h h2
    go_enter Tryz.func4, Tryz.ntmps4
    go_wp2_with (first
      | (go_at_call 6; ((with_reducible refine (FW.out _ hbX).mono ?_); rintro _ w1 ⟨rfl, rfl⟩))
      | (go_at_call 7; ((with_reducible refine (awake26 _).mono ?_); rintro _ w2 ⟨rfl, hb2⟩)))
    go_ret
    exact ⟨rfl, bel2' HBX.out hb2⟩
  | true =>
    rw [h2] at FW h
    have FW := Lib.hid FW
    have q3 : (12 : Int) < (C.n : Int) := by
      rcases h with h | h
      · cases h
      · omega
    have q4 : decide ((12 : Int) < (C.n : Int)) = true := decide_eq_true q3
    clear h h2
    go_enter Tryz.func4, Tryz.ntmps4
    go_wp2_with (first
      | (go_at_call 6; ((with_reducible refine (FW.out _ hbX).mono ?_); rintro _ w1 ⟨rfl, rfl⟩))
      | (go_at_call 7; ((with_reducible refine (awake26 _).mono ?_); rintro _ w2 ⟨rfl, hb2⟩)))
    go_ret
    exact ⟨rfl, bel2' HBX.out hb2⟩

set_option maxRecDepth 100000 in
set_option maxHeartbeats 8000000 in
theorem order_spoil (n code : Int) (hc1 : -9223372036854775808 ≤ code) (hc2 : code ≤ 9223372036854775807) (hv : GridAt w v L) (h2 : fewB L = true) (h4 : C.n ≤ 12) :
    Calls Tryz.prog 4 #[conC C, .int .i64 n, .int .i64 code, v, .int .i64 1] w fun e w' => e = .returned (.bool true) ∧ Below w.heap.size w w' := by
  obtain ⟨hf1, hf2⟩ := few_true.1 h2
  have FW := Lib.hid (fun wq (h : Below w.heap.size w wq) => few_c (hv.keep h))
  rw [h2] at FW
  have q3 : ¬ (12 : Int) < (C.n : Int) := by omega
  have q4 : decide ((12 : Int) < (C.n : Int)) = false := decide_eq_false q3
  obtain ⟨k, hk, k1, k7⟩ := mod_one n 7 (by omega)
  obtain ⟨z7, hz⟩ : ∃ z, n % ((7 : Nat) : Int) = z := ⟨_, rfl⟩
  rw [hz] at hk
  have M7 : Hid (∀ w, Calls Tryz.prog 8 #[.int .i64 n, .int .i64 7] w fun e w' => e = .returned (.int .i64 z7) ∧ w = w') := Lib.hid (fun w => by rw [← hz]; exact mod_c n 7 (by omega) (by omega) w)
  have e2k : IntKind.i64.wrap (k : Int) = k := w64 (by omega) (by omega)
  obtain ⟨T, hT⟩ : ∃ T, 1 + C.ties % 3 = T := ⟨_, rfl⟩
  have t1 : 1 ≤ T := by omega
  have t3 : T ≤ 3 := by omega
  have CO : Hid (∀ wq, Calls Tryz.prog 9 #[.int .i64 0, .int .i64 k, .int .i64 0, .int .i64 0, .int .i64 C.ties] wq fun e w' => ∃ p c, e = .returned (conC (conM p k c T)) ∧ Below wq.heap.size wq w') := Lib.hid (fun wq => by rw [← hT]; exact contest_c k (by omega) C.ties wq)
  have PL := Lib.hid (fun wq (h : Below w.heap.size w wq) => mpile_c (hv.keep h) k1 k7 hf1 hf2)
  have hgp := pile_pile (L := L) k1 hf2
  obtain ⟨gs, hgs⟩ : ∃ gs, pileB k L = gs := ⟨_, rfl⟩
  rw [hgs] at PL hgp
  have P1 := Lib.hid (fun wq => perm_o k (by omega) code hc1 hc2 wq)
  have hl1 := lots_perm k code
  obtain ⟨lots, hlo⟩ : ∃ l, permS k code = l := ⟨_, rfl⟩
  rw [hlo] at P1 hl1
  have hll := hl1.2
  have OD := Lib.hid (fun (wq : World) (p : Option Addr) (c : Nat) (vg vl : Value) (h1 : PileAt wq vg gs) (h2 : IntsAt wq vl (lots.set 0 (k : Int))) => order_bad (C := conM p k c T) (by show k ≤ 1000; omega) h1 h2 (by rw [spoil_fit k1 k7 t1 t3 hgp hll]; decide))
  have CB := Lib.hid (fun (wq : World) (p : Option Addr) (c : Nat) (vg vl : Value) (h1 : PileAt wq vg gs) (h2 : IntsAt wq vl (lots.set 0 (k : Int))) => count_bad (C := conM p k c T) (by show k ≤ 1000; omega) h1 h2 (by rw [spoil_fit k1 k7 t1 t3 hgp hll]; decide))
  have RB := Lib.hid (fun (wq : World) (p : Option Addr) (c : Nat) (vg vl : Value) (h1 : PileAt wq vg gs) (h2 : IntsAt wq vl (lots.set 0 (k : Int))) => rorder_bad (C := conM p k c T) (by show k ≤ 1000; omega) h1 h2 (by rw [spoil_fit k1 k7 t1 t3 hgp hll]; decide))
  have SF := fun (p : Option Addr) (c : Nat) => spoil_fit (p := p) (c := c) k1 k7 t1 t3 hgp hll
  have OD : Hid (∀ (wq : World) (p : Option Addr) (c : Nat) (vg vl : Value), PileAt wq vg gs → IntsAt wq vl (lots.set 0 (k : Int)) → Calls Tryz.prog 15 #[.agg #[.string ⟨#[99]⟩, .slice p k c, .int .i64 1, .int .i64 1, .int .i64 0, .int .i64 0, .int .i64 T, .int .i64 0, .int .i64 0], vg, vl] wq fun e w' => e = .returned (.tuple #[.slice none 0 0, .int .i64 13]) ∧ Below wq.heap.size wq w') := Lib.hid (fun wq p c vg vl h1 h2 => by
    have := OD.out wq p c vg vl h1 h2
    rwa [SF p c] at this)
  have CB : Hid (∀ (wq : World) (p : Option Addr) (c : Nat) (vg vl : Value), PileAt wq vg gs → IntsAt wq vl (lots.set 0 (k : Int)) → Calls Tryz.prog 12 #[.agg #[.string ⟨#[99]⟩, .slice p k c, .int .i64 1, .int .i64 1, .int .i64 0, .int .i64 0, .int .i64 T, .int .i64 0, .int .i64 0], vg, vl] wq fun e w' => ∃ a1 a2 a3 a4 b1 n1 c1 b2 n2 c2, e = .returned (.tuple #[.agg #[.int .i64 a1, .int .i64 a2, .int .i64 a3, .int .i64 a4, .slice b1 n1 c1, .slice b2 n2 c2], .int .i64 13]) ∧ Below wq.heap.size wq w') := Lib.hid (fun wq p c vg vl h1 h2 => by
    have := CB.out wq p c vg vl h1 h2
    rw [SF p c] at this
    refine this.mono ?_
    rintro e w' ⟨rfl, hb⟩
    exact ⟨_, _, _, _, _, _, _, _, _, _, rfl, hb⟩)
  have RB : Hid (∀ (wq : World) (p : Option Addr) (c : Nat) (vg vl : Value), PileAt wq vg gs → IntsAt wq vl (lots.set 0 (k : Int)) → Calls Tryz.prog 16 #[.agg #[.string ⟨#[99]⟩, .slice p k c, .int .i64 1, .int .i64 1, .int .i64 0, .int .i64 0, .int .i64 T, .int .i64 0, .int .i64 0], vg, vl] wq fun e w' => e = .returned (.tuple #[.slice none 0 0, .int .i64 13]) ∧ Below wq.heap.size wq w') := Lib.hid (fun wq p c vg vl h1 h2 => by
    have := RB.out wq p c vg vl h1 h2
    rwa [SF p c] at this)
  have EQ : Hid (∀ wq, Calls Tryz.prog 17 #[.slice none 0 0, .slice none 0 0] wq fun e w' => e = .returned (.bool true) ∧ Below wq.heap.size wq w') := Lib.hid (fun wq => by
    have := eq_c (a := []) (b := []) (show IntsAt wq (.slice none 0 0) [] from RowAt.nil wq) (show IntsAt wq (.slice none 0 0) [] from RowAt.nil wq)
    rwa [decide_eq_true rfl] at this)
  unfold conC conM conV nmV at CO
  simp only at CO
  unfold conC conV
  have hb0 : Below w.heap.size w (w.alloc (.cells #[C.nm, .slice C.p C.n C.c, .int .i64 C.cm, .int .i64 C.seats, .int .i64 C.ranks, .int .i64 C.digits, .int .i64 C.ties, .int .i64 C.over, .int .i64 C.skip] 24)) := (Below.refl _ _).alloc (Nat.le_refl _) _
  have KX := Blk.new w #[C.nm, .slice C.p C.n C.c, .int .i64 C.cm, .int .i64 C.seats, .int .i64 C.ranks, .int .i64 C.digits, .int .i64 C.ties, .int .i64 C.over, .int .i64 C.skip] 24
  obtain ⟨W0, hW0⟩ : ∃ W, w.alloc (.cells #[C.nm, .slice C.p C.n C.c, .int .i64 C.cm, .int .i64 C.seats, .int .i64 C.ranks, .int .i64 C.digits, .int .i64 C.ties, .int .i64 C.over, .int .i64 C.skip] 24) = W := ⟨_, rfl⟩
  rw [hW0] at hb0 KX
  obtain ⟨X, hX⟩ : ∃ X, w.heap.size = X := ⟨_, rfl⟩
  have HX := Lib.hid hX
  obtain ⟨x0, x1, x2, x3, x4, x5, x6, x7, x8⟩ := nine_cells KX
  have KX := Lib.hid KX
  have hXle : w.heap.size ≤ X := by omega
  rw [hX] at KX x0 x1 x2 x3 x4 x5 x6 x7 x8
  clear hv h2 hz hT hgs hlo hf1 hf2 SF hgp hl1
  go_enter Tryz.func4, Tryz.ntmps4
  go_upto_region 8 with (first
      | (go_at_call 6; ((with_reducible refine (FW.out _ hb0).mono ?_); rintro _ w1 ⟨rfl, rfl⟩))
      | (go_at_call 8; ((with_reducible refine (M7.out _).mono ?_); rintro _ w2 ⟨rfl, rfl⟩))
      | (go_at_call 9; ((with_reducible refine (CO.out _).mono ?_); rintro _ w4 ⟨p, c, rfl, hb4⟩; have KX4 := KX.out.keep hb4; obtain ⟨g0, g1, g2, g3, g4, g5, g6, g7, g8⟩ := nine_cells KX4; obtain ⟨f0, f1, f2, f3, f4, f5, f6, f7, f8⟩ := nine_frees KX4; have KX5 := blk9 KX4 (.string ⟨#[99]⟩) (.slice p k c) (.int .i64 1) (.int .i64 1) (.int .i64 0) (.int .i64 0) (.int .i64 T) (.int .i64 0) (.int .i64 0); have hb5 := below9 (bel2' hb0 hb4) hXle (.string ⟨#[99]⟩) (.slice p k c) (.int .i64 1) (.int .i64 1) (.int .i64 0) (.int .i64 0) (.int .i64 T) (.int .i64 0) (.int .i64 0); obtain ⟨W5, hW5⟩ : ∃ W, (((((((((w4.setCell ⟨X, 0, none⟩ (.string ⟨#[99]⟩)).setCell ⟨X, 1, none⟩ (.slice p k c)).setCell ⟨X, 2, none⟩ (.int .i64 1)).setCell ⟨X, 3, none⟩ (.int .i64 1)).setCell ⟨X, 4, none⟩ (.int .i64 0)).setCell ⟨X, 5, none⟩ (.int .i64 0)).setCell ⟨X, 6, none⟩ (.int .i64 T)).setCell ⟨X, 7, none⟩ (.int .i64 0)).setCell ⟨X, 8, none⟩ (.int .i64 0)) = W := ⟨_, rfl⟩; rw [hW5] at KX5 hb5; have KX5 := Lib.hid KX5; clear KX4))
      | (go_at_call 10; ((with_reducible refine (PL.out _ hb5).mono ?_); rintro _ w6 ⟨v6, rfl, h6, hb6⟩))
      | (go_at_call 11; ((with_reducible refine (P1.out _).mono ?_); rintro _ w7 ⟨v7, rfl, h7, hf7, hz7, hb7⟩; obtain ⟨p7, c7, hs7⟩ := h7.shape; rw [hll] at hs7; subst hs7; obtain ⟨g, o, hp7, _, _, lc7⟩ := h7.cellAt 0 (by omega); simp only [Nat.add_zero] at lc7; subst hp7; have lf7 := hz7 g o _ _ rfl o; have hg7 := hf7 g rfl)))
  have hb8 : Below w6.heap.size w6 (w7.setCell ⟨g, o, none⟩ (.int .i64 k)) := hb7.setCell (p := ⟨g, o, none⟩) hg7 _
  have h8 := ints_put h7 (by omega) (k : Int)
  have h68 := h6.keep hb8
  have hbw8 := bel2' (bel2' hb5 hb6) hb8
  have KC := KX5.out.keep (bel2' hb6 hb8)
  obtain ⟨W8, hW8⟩ : ∃ W, w7.setCell ⟨g, o, none⟩ (.int .i64 k) = W := ⟨_, rfl⟩
  rw [hW8] at hb8 h8 h68 hbw8 KC ⊢
  obtain ⟨j0, j1, j2, j3, j4, j5, j6, j7, j8⟩ := nine_cells KC
  have KC := Lib.hid KC
  clear hb5 hb6 hb7 hW5 g0 g1 g2 g3 g4 g5 g6 g7 g8 f0 f1 f2 f3 f4 f5 f6 f7 f8 x0 x1 x2 x3 x4 x5 x6 x7 x8 hW8 hb8 h7 hf7 hz7 lc7 lf7 hg7 h6
  go_wp2_with (first
      | (go_at_call 15; ((with_reducible refine (OD.out _ _ _ _ _ h68 h8).mono ?_); rintro _ w9 ⟨rfl, hb9⟩; obtain ⟨e0, e1, e2, e3, e4, e5, e6, e7, e8⟩ := nine_cells (KC.out.keep hb9)))
      | (go_at_call 12; ((with_reducible refine (CB.out _ _ _ _ _ (h68.keep hb9) (h8.keep hb9)).mono ?_); rintro _ w10 ⟨a1, a2, a3, a4, b1, n1, c1, b2, n2, c2, rfl, hb10⟩; have a10 : Below w10.heap.size w10 (w10.alloc (.cells #[.int .i64 a1, .int .i64 a2, .int .i64 a3, .int .i64 a4, .slice b1 n1 c1, .slice b2 n2 c2] 37)) := below_al (Below.refl _ _) _; obtain ⟨WA, hWA⟩ : ∃ W, w10.alloc (.cells #[.int .i64 a1, .int .i64 a2, .int .i64 a3, .int .i64 a4, .slice b1 n1 c1, .slice b2 n2 c2] 37) = W := ⟨_, rfl⟩; rw [hWA] at a10; have hb8A := bel2' hb9 (bel2' hb10 a10); obtain ⟨u0, u1, u2, u3, u4, u5, u6, u7, u8⟩ := nine_cells (KC.out.keep hb8A)))
      | (go_at_call 16; ((with_reducible refine (RB.out _ _ _ _ _ (h68.keep hb8A) (h8.keep hb8A)).mono ?_); rintro _ w11 ⟨rfl, hb11⟩))
      | (go_at_call 17; ((with_reducible refine (EQ.out _).mono ?_); rintro _ w12 ⟨rfl, hb12⟩))
      | (go_at_call 7; ((with_reducible refine (awake26 _).mono ?_); rintro _ w13 ⟨rfl, hb13⟩)))
  go_ret
  exact ⟨rfl, bel2' hbw8 (bel2' hb8A (bel2' hb11 (bel2' hb12 hb13)))⟩

set_option maxRecDepth 100000 in
set_option maxHeartbeats 8000000 in
theorem order_good (n code spoil : Int) (hsp : spoil ≠ 1) (hc1 : -9223372036854775808 ≤ code) (hc2 : code ≤ 9223372036854775807) (hv : GridAt w v L) (h2 : fewB L = true) (h4 : C.n ≤ 12) :
    Calls Tryz.prog 4 #[conC C, .int .i64 n, .int .i64 code, v, .int .i64 spoil] w fun e w' => e = .returned (.bool true) ∧ Below w.heap.size w w' := by
  have qs : (spoil == 1) = false := by rw [beq_eq_false_iff_ne]; exact hsp
  obtain ⟨hf1, hf2⟩ := few_true.1 h2
  have FW := Lib.hid (fun wq (h : Below w.heap.size w wq) => few_c (hv.keep h))
  rw [h2] at FW
  have q3 : ¬ (12 : Int) < (C.n : Int) := by omega
  have q4 : decide ((12 : Int) < (C.n : Int)) = false := decide_eq_false q3
  obtain ⟨k, hk, k1, k7⟩ := mod_one n 7 (by omega)
  obtain ⟨z7, hz⟩ : ∃ z, n % ((7 : Nat) : Int) = z := ⟨_, rfl⟩
  rw [hz] at hk
  have M7 : Hid (∀ w, Calls Tryz.prog 8 #[.int .i64 n, .int .i64 7] w fun e w' => e = .returned (.int .i64 z7) ∧ w = w') := Lib.hid (fun w => by rw [← hz]; exact mod_c n 7 (by omega) (by omega) w)
  have e2k : IntKind.i64.wrap (k : Int) = k := w64 (by omega) (by omega)
  obtain ⟨T, hT⟩ : ∃ T, 1 + C.ties % 3 = T := ⟨_, rfl⟩
  have t1 : 1 ≤ T := by omega
  have t3 : T ≤ 3 := by omega
  have CO : Hid (∀ wq, Calls Tryz.prog 9 #[.int .i64 0, .int .i64 k, .int .i64 0, .int .i64 0, .int .i64 C.ties] wq fun e w' => ∃ p c, e = .returned (conC (conM p k c T)) ∧ Below wq.heap.size wq w') := Lib.hid (fun wq => by rw [← hT]; exact contest_c k (by omega) C.ties wq)
  have PL := Lib.hid (fun wq (h : Below w.heap.size w wq) => mpile_c (hv.keep h) k1 k7 hf1 hf2)
  have hgp := pile_pile (L := L) k1 hf2
  obtain ⟨gs, hgs⟩ : ∃ gs, pileB k L = gs := ⟨_, rfl⟩
  rw [hgs] at PL hgp
  have P1 := Lib.hid (fun wq => perm_o k (by omega) code hc1 hc2 wq)
  have hl1 := lots_perm k code
  obtain ⟨lots, hlo⟩ : ∃ l, permS k code = l := ⟨_, rfl⟩
  rw [hlo] at P1 hl1
  have hok := fun (p : Option Addr) (c : Nat) => okA (p := p) (c := c) k1 k7 t1 t3 hgp hl1
  have hbk := brk_in hl1 t1 t3 k1 k7
  have hne : aliveS (List.replicate k true) ≠ [] := fun e => by have := alive_all_len k; rw [e] at this; simp at this; omega
  have hag := count_agree hgp.pos k (List.replicate k true) [] (by rw [List.length_replicate]; exact hbk) (by rw [alive_all_len]; exact Nat.le_refl _) hne
  have hop := (order_perm (gs := gs) k (List.replicate k true) [] (by rw [List.length_replicate]; exact hbk) (by rw [alive_all_len]; exact Nat.le_refl _)).length_eq
  rw [alive_all_len] at hop
  have OD := fun (wq : World) (p : Option Addr) (c : Nat) (vg vl : Value) (h1 : PileAt wq vg gs) (h2 : IntsAt wq vl lots) => order_c h1 h2 (hok p c)
  have CX := fun (wq : World) (p : Option Addr) (c : Nat) (vg vl : Value) (h1 : PileAt wq vg gs) (h2 : IntsAt wq vl lots) => count_x (p := p) (c := c) h1 h2 k1 k7 t1 t3 hgp hl1
  have RD := fun (wq : World) (p : Option Addr) (c : Nat) (vg vl : Value) (h1 : PileAt wq vg gs) (h2 : IntsAt wq vl lots) => rorder_c h1 h2 (hok p c)
  have OD : ∀ (wq : World) (p : Option Addr) (c : Nat) (vg vl : Value), PileAt wq vg gs → IntsAt wq vl lots → Calls Tryz.prog 15 #[.agg #[.string ⟨#[99]⟩, .slice p k c, .int .i64 1, .int .i64 1, .int .i64 0, .int .i64 0, .int .i64 T, .int .i64 0, .int .i64 0], vg, vl] wq fun e w' => ∃ v', e = .returned (.tuple #[v', .int .i64 0]) ∧ IntsAt w' v' (orderS (brkS T lots) gs k (List.replicate k true) []) ∧ Fresh wq.heap.size v' ∧ Below wq.heap.size wq w' := OD
  have RD : ∀ (wq : World) (p : Option Addr) (c : Nat) (vg vl : Value), PileAt wq vg gs → IntsAt wq vl lots → Calls Tryz.prog 16 #[.agg #[.string ⟨#[99]⟩, .slice p k c, .int .i64 1, .int .i64 1, .int .i64 0, .int .i64 0, .int .i64 T, .int .i64 0, .int .i64 0], vg, vl] wq fun e w' => ∃ v', e = .returned (.tuple #[v', .int .i64 0]) ∧ IntsAt w' v' (orderS (brkS T lots) gs k (List.replicate k true) []) ∧ Below wq.heap.size wq w' := RD
  have hln := count_len (whole := false) (brk := brkS T lots) (gs := gs) k (List.replicate k true) []
  obtain ⟨O, hO⟩ : ∃ o, orderS (brkS T lots) gs k (List.replicate k true) [] = o := ⟨_, rfl⟩
  obtain ⟨R, hR⟩ : ∃ R, countS false (brkS T lots) gs k (List.replicate k true) [] = R := ⟨_, rfl⟩
  rw [hO] at hag hop OD RD
  rw [hR] at hag hln CX
  obtain ⟨nr, hnr⟩ : ∃ n, R.length = n := ⟨_, rfl⟩
  rw [hnr] at CX hln
  have HNR := Lib.hid hnr
  have HOP := Lib.hid hop
  have HAG := Lib.hid hag
  have OD := Lib.hid (fun wq p c vg vl h1 h2 => by
    have := OD wq p c vg vl h1 h2
    exact this)
  have RD := Lib.hid RD
  have CX := Lib.hid CX
  have EQ : Hid (∀ wq va vb, IntsAt wq va O → IntsAt wq vb O → Calls Tryz.prog 17 #[va, vb] wq fun e w' => e = .returned (.bool true) ∧ Below wq.heap.size wq w') := Lib.hid (fun wq va vb h1 h2 => by
    have := eq_c h1 h2
    rwa [decide_eq_true rfl] at this)
  unfold conC conM conV nmV at CO
  simp only at CO
  unfold conC conV
  have hb0 : Below w.heap.size w (w.alloc (.cells #[C.nm, .slice C.p C.n C.c, .int .i64 C.cm, .int .i64 C.seats, .int .i64 C.ranks, .int .i64 C.digits, .int .i64 C.ties, .int .i64 C.over, .int .i64 C.skip] 24)) := (Below.refl _ _).alloc (Nat.le_refl _) _
  have KX := Blk.new w #[C.nm, .slice C.p C.n C.c, .int .i64 C.cm, .int .i64 C.seats, .int .i64 C.ranks, .int .i64 C.digits, .int .i64 C.ties, .int .i64 C.over, .int .i64 C.skip] 24
  obtain ⟨W0, hW0⟩ : ∃ W, w.alloc (.cells #[C.nm, .slice C.p C.n C.c, .int .i64 C.cm, .int .i64 C.seats, .int .i64 C.ranks, .int .i64 C.digits, .int .i64 C.ties, .int .i64 C.over, .int .i64 C.skip] 24) = W := ⟨_, rfl⟩
  rw [hW0] at hb0 KX
  obtain ⟨X, hX⟩ : ∃ X, w.heap.size = X := ⟨_, rfl⟩
  have HX := Lib.hid hX
  obtain ⟨x0, x1, x2, x3, x4, x5, x6, x7, x8⟩ := nine_cells KX
  have KX := Lib.hid KX
  have hXle : w.heap.size ≤ X := by omega
  rw [hX] at KX x0 x1 x2 x3 x4 x5 x6 x7 x8
  clear hv h2 hz hT hgs hlo hf1 hf2 hgp hl1 hok hbk hne hag hop hO hR hnr hsp
  go_enter Tryz.func4, Tryz.ntmps4
  go_upto_region 8 with (first
      | (go_at_call 6; ((with_reducible refine (FW.out _ hb0).mono ?_); rintro _ w1 ⟨rfl, rfl⟩))
      | (go_at_call 8; ((with_reducible refine (M7.out _).mono ?_); rintro _ w2 ⟨rfl, rfl⟩))
      | (go_at_call 9; ((with_reducible refine (CO.out _).mono ?_); rintro _ w4 ⟨p, c, rfl, hb4⟩; have KX4 := KX.out.keep hb4; obtain ⟨g0, g1, g2, g3, g4, g5, g6, g7, g8⟩ := nine_cells KX4; obtain ⟨f0, f1, f2, f3, f4, f5, f6, f7, f8⟩ := nine_frees KX4; have KX5 := blk9 KX4 (.string ⟨#[99]⟩) (.slice p k c) (.int .i64 1) (.int .i64 1) (.int .i64 0) (.int .i64 0) (.int .i64 T) (.int .i64 0) (.int .i64 0); have hb5 := below9 (bel2' hb0 hb4) hXle (.string ⟨#[99]⟩) (.slice p k c) (.int .i64 1) (.int .i64 1) (.int .i64 0) (.int .i64 0) (.int .i64 T) (.int .i64 0) (.int .i64 0); obtain ⟨W5, hW5⟩ : ∃ W, (((((((((w4.setCell ⟨X, 0, none⟩ (.string ⟨#[99]⟩)).setCell ⟨X, 1, none⟩ (.slice p k c)).setCell ⟨X, 2, none⟩ (.int .i64 1)).setCell ⟨X, 3, none⟩ (.int .i64 1)).setCell ⟨X, 4, none⟩ (.int .i64 0)).setCell ⟨X, 5, none⟩ (.int .i64 0)).setCell ⟨X, 6, none⟩ (.int .i64 T)).setCell ⟨X, 7, none⟩ (.int .i64 0)).setCell ⟨X, 8, none⟩ (.int .i64 0)) = W := ⟨_, rfl⟩; rw [hW5] at KX5 hb5; have KX5 := Lib.hid KX5; clear KX4))
      | (go_at_call 10; ((with_reducible refine (PL.out _ hb5).mono ?_); rintro _ w6 ⟨v6, rfl, h6, hb6⟩))
      | (go_at_call 11; ((with_reducible refine (P1.out _).mono ?_); rintro _ w7 ⟨v7, rfl, h7, hf7, hz7, hb7⟩)))
  have h67 := h6.keep hb7
  have hbw7 := bel2' (bel2' hb5 hb6) hb7
  have KC := KX5.out.keep (bel2' hb6 hb7)
  obtain ⟨j0, j1, j2, j3, j4, j5, j6, j7, j8⟩ := nine_cells KC
  have KC := Lib.hid KC
  clear hb5 hb6 hb7 hW5 g0 g1 g2 g3 g4 g5 g6 g7 g8 f0 f1 f2 f3 f4 f5 f6 f7 f8 x0 x1 x2 x3 x4 x5 x6 x7 x8 hf7 hz7 h6
  go_wp2_with (first
      | (go_at_call 15; ((with_reducible refine (OD.out _ _ _ _ _ h67 h7).mono ?_); rintro _ w9 ⟨v9, rfl, ho9, _, hb9⟩; obtain ⟨e0, e1, e2, e3, e4, e5, e6, e7, e8⟩ := nine_cells (KC.out.keep hb9); obtain ⟨pv, cv, hvs⟩ := ho9.shape; rw [HOP.out] at hvs; subst hvs; have ho9 := Lib.hid ho9))
      | (go_at_call 12; ((with_reducible refine (CX.out _ _ _ _ _ (h67.keep hb9) (h7.keep hb9)).mono ?_); rintro _ w10 ⟨pr, nr0, cr, pw, cw, xw, rfl, rfl, h10, h10w, hwin, hb10⟩; have a10 : Below w10.heap.size w10 (w10.alloc (.cells #[.int .i64 1, .int .i64 1, .int .i64 0, .int .i64 k, .slice pr nr0 cr, .slice pw 1 cw] 37)) := below_al (Below.refl _ _) _; have KA := Blk.new w10 #[.int .i64 1, .int .i64 1, .int .i64 0, .int .i64 k, .slice pr nr0 cr, .slice pw 1 cw] 37; obtain ⟨WA, hWA⟩ : ∃ W, w10.alloc (.cells #[.int .i64 1, .int .i64 1, .int .i64 0, .int .i64 k, .slice pr nr0 cr, .slice pw 1 cw] 37) = W := ⟨_, rfl⟩; obtain ⟨TA, hTA⟩ : ∃ T, w10.heap.size = T := ⟨_, rfl⟩; rw [hWA] at a10 KA; rw [hTA] at KA; have hb9A := bel2' hb10 a10; have hb7A := bel2' hb9 hb9A; obtain ⟨u0, u1, u2, u3, u4, u5, u6, u7, u8⟩ := nine_cells (KC.out.keep hb7A); have KA := Lib.hid KA; have H10 := Lib.hid (h10.now.keep a10); have H10W := Lib.hid (h10w.now.keep a10); clear h10 h10w))
      | (go_at_call 16; ((with_reducible refine (RD.out _ _ _ _ _ (h67.keep hb7A) (h7.keep hb7A)).mono ?_); rintro _ w11 ⟨v11, rfl, ho11, hb11⟩))
      | (go_at_call 17; ((with_reducible refine (EQ.out _ _ _ (ho9.out.keep (bel2' hb9A hb11)) ho11).mono ?_); rintro _ w12 ⟨rfl, hb12⟩)))
  have hbA12 := bel2' hb11 hb12
  have hbw12 := Lib.hid (bel2' hbw7 (bel2' hb7A hbA12))
  have KT := KA.out.keep hbA12
  have t4 := KT.2.1 4
  have t5 := KT.2.1 5
  simp only [List.getElem?_toArray, List.getElem?_cons_zero, List.getElem?_cons_succ] at t4 t5
  have T4 := Lib.hid t4
  have T5 := Lib.hid t5
  have HR := Lib.hid (H10.out.keep hbA12)
  have HWN := Lib.hid (H10W.out.keep hbA12)
  have HOI := Lib.hid (ho9.out.keep (bel2' hb9A hbA12))
  clear KT t4 t5 hbA12 hb7A hb9A hb9 hb10 hb11 hb12 a10 hWA hTA e0 e1 e2 e3 e4 e5 e6 e7 e8 u0 u1 u2 u3 u4 u5 u6 u7 u8 j0 j1 j2 j3 j4 j5 j6 j7 j8 h67 h7 ho11 ho9
  go_loopw [19] (fun iv wr => ∃ i : Nat, i ≤ nr0 ∧ iv = .int .i64 i ∧ Below w12.heap.size w12 wr) (fun iv _ => nr0 - (intOf iv).toNat)
  case atStart => exact ⟨0, by omega, rfl, Below.refl _ _⟩
  case round =>
    obtain ⟨i, hi, rfl, hbel⟩ := hrel
    have t4r := cell_keep hbel T4.out
    obtain ⟨i1, hi1⟩ : ∃ z, (i : Int) + 1 = z := ⟨_, rfl⟩
    have ei1 : IntKind.i64.wrap i1 = i1 := w64 (by omega) (by omega)
    by_cases hlt : i + 1 < nr0
    · have hltz : i1 < (nr0 : Int) := by omega
      have hltz2 : (i : Int) < (nr0 : Int) := by omega
      obtain ⟨r, y, hr, hex, hoy⟩ := agree_at HAG.out (i := i) (by rw [HNR.out]; exact hlt)
      obtain ⟨g, off, a, b, q1, q2, e1, e2, s1, s2, l1, l2, l3, e4, en1, hc3, hc4, V1, C1⟩ := rnd_at (HR.out.keep hbel) hr
      clear en1
      subst e4
      rw [HNR.out] at hc3
      have Vex := V1.ex
      rw [hex] at Vex
      obtain ⟨pe, ce, e5⟩ := Vex.shape
      subst e5
      obtain ⟨ge, oe, hpe, _, _, lce⟩ := Vex.cellAt 0 (by simp)
      subst hpe
      simp only [List.getD_cons_zero, Nat.add_zero] at lce
      obtain ⟨gl, ol, hpl, _, _, lcl⟩ := (HOI.out.keep hbel).cellAt i (by rw [HOP.out]; omega)
      subst hpl
      rw [show O.getD i 0 = y by rw [List.getD_eq_getElem?_getD, hoy]; rfl] at lcl
      obtain ⟨c0r, c1r, c2r, c3r, c4r, c5r, c6r, c7r, c8r, c9r, c10r, c11r, c12r, c13r⟩ := C1
      have c12 : wr.cell? ⟨g, off + i * 14 + 12, none⟩ = some (.slice (some ⟨ge, oe, none⟩) 1 ce) := c12r
      have q1' : decide ((k : Int) ≤ (i : Int)) = false := decide_eq_false (by omega)
      have q1n : decide (k ≤ i) = false := decide_eq_false (by omega)
      have q2' : ¬ (k : Int) ≤ (i : Int) := by omega
      have q2'' : (i : Int) < (k : Int) := by omega
      have q3' : (y != y) = false := by simp
      have HB := Lib.hid hbel
      clear hr hex hoy V1 Vex c0r c1r c2r c3r c4r c5r c6r c7r c8r c9r c10r c11r c12r c13r hbel
      go_wp2_with fail
      go_quiet (fail)
      all_goals
        go_wp2_with fail
        go_roundw
        case rel => exact ⟨i + 1, by omega, by go_num, below_drewN HB.out _⟩
        case measure => simp [intOf] <;> omega
    · have hltz : ¬ i1 < (nr0 : Int) := by omega
      obtain ⟨r0, x0, hr0, hel0, hol0⟩ := agree_last HAG.out
      obtain ⟨r1, hr1, hel1⟩ := hwin.out
      have hxx : x0 = xw := by
        have hr1 : R.getLast? = some r1 := hr1
        rw [hr0] at hr1
        obtain rfl := Option.some.inj hr1
        rw [hel0] at hel1
        simpa using hel1
      subst hxx
      obtain ⟨m, hm⟩ : ∃ m, k = m + 1 := ⟨k - 1, by omega⟩
      have hox : O.getD m 0 = x0 := by
        rw [List.getLast?_eq_getElem?, HOP.out, hm, Nat.add_sub_cancel] at hol0
        rw [List.getD_eq_getElem?_getD, hol0]
        rfl
      obtain ⟨gl, ol, hpl, _, _, lcl⟩ := (HOI.out.keep hbel).cellAt m (by rw [HOP.out]; omega)
      subst hpl
      rw [hox] at lcl
      obtain ⟨gw, ow, hpw, _, _, lcw⟩ := (HWN.out.keep hbel).cellAt 0 (by simp)
      subst hpw
      simp only [List.getD_cons_zero, Nat.add_zero] at lcw
      have t5r := cell_keep hbel T5.out
      have ewr : IntKind.i64.wrap ((k : Int) - 1) = (m : Int) := by rw [show ((k : Int) - 1) = m by omega]; exact w64 (by omega) (by omega)
      have hm0 : ¬ (m : Int) < 0 := by omega
      have hm00 : (0 : Int) ≤ (m : Int) := by omega
      have hmn : ¬ (k : Int) ≤ (m : Int) := by omega
      have hmn2 : (m : Int) < (k : Int) := by omega
      have qx : (x0 == x0) = true := by simp
      have qk : ((k : Int) == (k : Int)) = true := by simp
      have S0 : Hid (∀ W', Below wr.heap.size wr W' → W'.cell? ⟨TA, 5, none⟩ = some (.slice (some ⟨gw, ow, none⟩) 1 cw) ∧ W'.cell? ⟨gw, ow, none⟩ = some (.int .i64 x0) ∧ W'.cell? ⟨gl, ol + m, none⟩ = some (.int .i64 x0)) := Lib.hid (fun W' h => ⟨cell_keep h t5r, cell_keep h lcw, cell_keep h lcl⟩)
      have BD : Below wr.heap.size wr wr.drew := (Below.refl _ _).drew
      have HB := Lib.hid hbel
      clear hr0 hel0 hol0 hr1 hel1 hox hm lcl lcw t5r hbel
      go_wp2_with fail
      go_region_held3 (fun W' => W'.cell? ⟨TA, 5, none⟩ = some (.slice (some ⟨gw, ow, none⟩) 1 cw) ∧ W'.cell? ⟨gw, ow, none⟩ = some (.int .i64 x0) ∧ W'.cell? ⟨gl, ol + m, none⟩ = some (.int .i64 x0))
        (first | with_reducible exact S0.out _ b20 | with_reducible exact S0.out _ BD)
        (first
          | (go_at_call 7; ((with_reducible refine (awake26 _).mono ?_); rintro _ w20 ⟨rfl, hb20⟩; have b20 := bel2' BD hb20)))
      all_goals
        go_wp2_with fail
        go_ret
        exact ⟨rfl, bel2' hbw12.out (bel2' HB.out b20)⟩

theorem walk_IrvOrder (n code : Int) (hc1 : -9223372036854775808 ≤ code) (hc2 : code ≤ 9223372036854775807) (hv : GridAt w v L) (spoil : Int) :
    Calls Tryz.prog 4 #[conC C, .int .i64 n, .int .i64 code, v, .int .i64 spoil] w fun e w' => e = .returned (.bool true) ∧ Below w.heap.size w w' := by
  cases h2 : fewB L with
  | false => exact order_out n code spoil hv (.inl h2)
  | true =>
    by_cases h4 : C.n ≤ 12
    · by_cases hs : spoil = 1
      · subst hs
        exact order_spoil n code hc1 hc2 hv h2 h4
      · exact order_good n code spoil hs hc1 hc2 hv h2 h4
    · exact order_out n code spoil hv (.inr (by omega))
end

end Go.Proofs.YtbnhgmikegdppaaGreat

namespace Go.Proofs.YtbnhgmikegdppaaGreat.irvOrder
open Go.ChangeShapes Go.WideShapes Go.ChangeAt Go.RowKit
open Go.ChangeMaps (open_string shut_string)

theorem own : ownKnob Tryz.prog.godebug = none := by kernel_rfl
theorem laidOut : laidOutB Tryz.prog = true := by kernel_rfl

set_option maxRecDepth 100000 in
theorem lifted (os : Os) (started : os.Started) (H : Type) (enc : TypeId × Value → H) :
    ReturnsInHanded {} Tryz.checked os 4 .any (Rows.irvOrderSpec.pre6 enc Tryz.prog Tryz.f4 Rows.irvOrderRow.domain false) (Rows.irvOrderSpec.post enc Tryz.prog Tryz.f4 false true false false) := by
  refine returnsInHanded_of_change (C := Tryz.checked) own started (by kernel_rfl) Tryz.func4
    (ChangeSpec.witness6 (enc := enc) (C := Tryz.checked) false ⟨#[], #[.agg #[.string ByteArray.empty, .slice none 0 0, .int .i64 0, .int .i64 0, .int .i64 0, .int .i64 0, .int .i64 0, .int .i64 0, .int .i64 0], .int .i64 0, .int .i64 0, .slice none 0 0, .int .i64 0], []⟩ 8 (by kernel_rfl) (by kernel_rfl) (by kernel_rfl) (by kernel_rfl)) ?_
  intro W base args ds gs before hval0 hW hcnd _
  have hval := hval0
  have hW' := hW
  obtain ⟨p, q, hA0, hV, rfl, hfz, hnd⟩ := hW
  have hA : DataW.TrodAll enc Tryz.prog W 0 (fun _ => true) true Tryz.f4.params.toList args.toList ds p := hA0
  rw [Tryz.params4] at hA hval
  obtain ⟨v0, vs0, d0, ds0, p0, q0, hargs, rfl, rfl, h0, r0⟩ := trodAll_cons hA
  obtain ⟨v1, vs1, d1, ds1, p1, q1, rfl, rfl, rfl, h1, r1⟩ := trodAll_cons r0
  obtain ⟨v2, vs2, d2, ds2, p2, q2, rfl, rfl, rfl, h2, r2⟩ := trodAll_cons r1
  obtain ⟨v3, vs3, d3, ds3, p3, q3, rfl, rfl, rfl, h3, r3⟩ := trodAll_cons r2
  obtain ⟨v4, vs4, d4, ds4, p4, q4, rfl, rfl, rfl, h4, r4⟩ := trodAll_cons r3
  obtain ⟨rfl, rfl, rfl⟩ := trodAll_nil r4
  obtain rfl : args = #[v0, v1, v2, v3, v4] := by cases args; simp_all
  obtain ⟨rfl, rfl⟩ := trodVars_none hV
  have lt0 : ∀ x ∈ p0, x.block < W.heap.size := by obtain ⟨m, hm⟩ := h0; exact DataW.trod_lt m _ _ _ hm
  obtain ⟨C0, rfl⟩ := con_open (hval 0 24 v0 rfl rfl) h0
  obtain ⟨a1, rfl, rfl, rfl, w1⟩ := open_int Tryz.underlying3 (hval 1 3 v1 rfl rfl) h1
  obtain ⟨a2, rfl, rfl, rfl, w2⟩ := open_int Tryz.underlying3 (hval 2 3 v2 rfl rfl) h2
  have wf2 := w2
  simp [Lit.wf] at wf2
  have lo2 : IntKind.i64.min = -9223372036854775808 := by decide
  have hi2 : IntKind.i64.max = 9223372036854775807 := by decide
  have lt3 : ∀ x ∈ p3, x.block < W.heap.size := by obtain ⟨m, hm⟩ := h3; exact DataW.trod_lt m _ _ _ hm
  obtain ⟨l3, n3⟩ := grid_open (hval 3 27 v3 rfl rfl) h3
  obtain ⟨a4, rfl, rfl, rfl, w4⟩ := open_int Tryz.underlying3 (hval 4 3 v4 rfl rfl) h4
  clear hA0 hval0
  refine (walk_IrvOrder a1 a2 (by omega) (by omega) n3 a4).mono fun e W' ⟨he, bel⟩ => ?_
  subst he
  exact ⟨_, rfl, _, _, _, [], _, [], hW', trodAll_mk1 (shut_bool Tryz.underlying4 _), (trodAll_cons_mk (Below.trod laidOut (by kernel_rfl) (of_decide_eq_true (by kernel_rfl)) h0 bel lt0) (trodAll_cons_mk (shut_int Tryz.underlying3 w1) (trodAll_cons_mk (shut_int Tryz.underlying3 w2) (trodAll_cons_mk (Below.trod laidOut (by kernel_rfl) (of_decide_eq_true (by kernel_rfl)) h3 bel lt3) (trodAll_cons_mk (shut_int Tryz.underlying3 w4) trodAll_mk0))))), rfl, bel.frame _, fun h => by cases h⟩

theorem over : Rows.irvOrderRow.holds Tryz.pinned (OpenSpec.ofChange Rows.irvOrderSpec) :=
  OpenClaim.holds_of_wide 4 Tryz.f4 rfl rfl rfl rfl rfl rfl rfl ⟨rfl, rfl, rfl, rfl, rfl⟩ rfl rfl rfl rfl rfl (by kernel_rfl) Tryz.func4 (by kernel_rfl)
    (of_decide_eq_true (by kernel_rfl)) (by unfold Func.isWrapper; first | (rw [if_pos (by decide +kernel)]; kernel_rfl) | (rw [if_neg (by decide +kernel)]; exact ⟨rfl, rfl⟩))
    (fun os started H enc _ => lifted os started H enc)

end Go.Proofs.YtbnhgmikegdppaaGreat.irvOrder
namespace Go.Proofs.YtbnhgmikegdppaaGreat
/-- IrvOrder: the given statement. -/
theorem irvOrder_proved : Rows.IrvOrderSaid := irvOrder.over
#print axioms irvOrder_proved
end Go.Proofs.YtbnhgmikegdppaaGreat
