/- The statement SyntaxCanon: its walk. -/
import Derived.Test.YthdcgplocdehjaaHf
import Derived.Test.YthdcgplocdehjaaFc
namespace Go.Proofs.Ythdcgplocdehjaa
open Go.RowKit Go.Proofs.Kit

theorem parse_open (s : ByteArray) (hs : s.size ≤ 20000) {r : Except Nat Src} (hr : parseL s.data.toList = r) {K : ByteArray} (hK : strV (srcOf r).1 = .string K) (w : World) :
    Calls Try.prog 9 #[.string s] w fun e w' => (∃ p m c, e = .returned (.tuple #[.agg #[.string K, .slice p m c], .agg #[.int .i64 (errOf r), .int .i64 (lineOf r)]]) ∧ Made w.heap.size (fun W => SliceOf (blkRA lnN) 4 W (.slice p m c) (srcOf r).2) w') ∧ Below w.heap.size w w' :=
  (parse_v s w hs).mono fun e w' h => ⟨PV.open_ hK (by have := h.1; rw [hr] at this; exact this), h.2⟩

set_option maxRecDepth 100000 in
set_option maxHeartbeats 4000000 in
theorem walk_SyntaxCanon (a : ByteArray) (_ha : a.size ≤ maxLen) {w : World} :
    Calls Try.prog 6 #[.string a] w fun e w' => e = .returned (.bool true) ∧ Below w.heap.size w w' := by
  obtain ⟨S, hS⟩ : ∃ S, a.extract 0 (min (a.size : Int) 400).toNat = S := ⟨_, rfl⟩
  have hs : S.size ≤ 400 := by rw [← hS]; simp [ByteArray.size_extract]; omega
  have HS := Lib.hid hS
  have q1 : (0 : Int) ≤ min (a.size : Int) 400 := by omega
  have q2 : min (a.size : Int) 400 ≤ (a.size : Int) := by omega
  have AW := Lib.hid awake_c
  have hsm0 : SmS (srcOf (parseL S.data.toList)) := sm_parse (by rw [← Lib.size_eq]; exact hs)
  cases hr : parseL S.data.toList with
  | error n =>
    have PA := Lib.hid (fun w => parse_open S (by omega) hr (K := ⟨#[]⟩) rfl w)
    clear hS hr hsm0
    go_enter Try.func6, Try.ntmps6
    go_wp2_with (first
      | (go_at_call 9; (rw [HS.out]); ((with_reducible refine (PA.out _).mono ?_); rintro e w1 ⟨⟨p, m, c, he, hm⟩, hb1⟩; have he : e = .returned (.tuple #[.agg #[.string ⟨#[]⟩, .slice p m c], .agg #[.int .i64 1, .int .i64 n]]) := he; subst he; obtain ⟨R1, R2, hbA⟩ := (boxes w1 (.string ⟨#[]⟩) (.slice p m c) (.int .i64 1) (.int .i64 n) 24 27).out; have hbw := bel3 hb1 hbA; obtain ⟨b0, b1⟩ := R2.two; clear hm hb1 hbA R1))
      | (go_at_call 11; ((with_reducible refine (AW.out _).mono ?_); rintro e w3 ⟨rfl, hb4⟩)))
    go_ret
    exact ⟨rfl, bel3 hbw hb4⟩
  | ok s =>
    rw [hr] at hsm0
    have hsm : SmS s := hsm0
    obtain ⟨hok, hlen⟩ := canon_law (by rw [← Lib.size_eq]; exact hs) hr
    obtain ⟨e1, e2, e3, e4⟩ := reline_text s
    have hpr : printL s = (srcL s, true) := by unfold printL; rw [hok, decide_eq_true hlen]; rfl
    obtain ⟨K, hK⟩ : ∃ K, strV s.1 = .string K := ⟨_, rfl⟩
    obtain ⟨T, hT⟩ : ∃ T : ByteArray, (⟨(srcL s).toArray⟩ : ByteArray) = T := ⟨_, rfl⟩
    have hTs : T.size ≤ 20000 := by rw [← hT, size_mk]; exact hlen
    have hTr : parseL T.data.toList = .ok (reline s) := by rw [← hT]; exact round_law s hok
    have PA := Lib.hid (fun w => parse_open S (by omega) hr (K := K) hK w)
    have PB := Lib.hid (fun w => parse_open T hTs hTr (K := K) hK w)
    have PR1 := Lib.hid (fun (u : Value) (w : World) (h : SliceOf (blkRA lnN) 4 w u s.2) => print_c (ln := lnN) hsm w h)
    have PR2 := Lib.hid (fun (u : Value) (w : World) (h : SliceOf (blkRA lnN) 4 w u (reline s).2) => print_c (ln := lnN) (e4 hsm) w h)
    rw [hpr, hT, hK] at PR1
    rw [e3, hpr, hT, show strV (reline s).1 = .string K from hK] at PR2
    have EQ := Lib.hid (fun u v w hu hv => eq_c (la := lnN) (lb := lnN) (reline_same s) (u := u) (v := v) w (e4 hsm) hu hv)
    rw [show strV (reline s).1 = .string K from hK, hK] at EQ
    clear hS hr hsm0 hsm hok hlen e1 e2 e3 e4 hpr hK hT hTr
    go_enter Try.func6, Try.ntmps6
    go_wp2_with (first
      | (go_at_call 9; (rw [HS.out]); ((with_reducible refine (PA.out _).mono ?_); rintro e w1 ⟨⟨p, m, c, he, hm⟩, hb1⟩; have he : e = .returned (.tuple #[.agg #[.string K, .slice p m c], .agg #[.int .i64 0, .int .i64 0]]) := he; have hm : Made w.heap.size (fun W => SliceOf (blkRA lnN) 4 W (.slice p m c) s.2) w1 := hm; subst he; obtain ⟨R1, R2, hbA⟩ := (boxes w1 (.string K) (.slice p m c) (.int .i64 0) (.int .i64 0) 24 27).out; have R1 := Lib.hid R1; have hbw := bel3 hb1 hbA; have HM := Lib.hid (hm.keep hbA).now; obtain ⟨b0, b1⟩ := R2.two; obtain ⟨a0, a1⟩ := R1.out.two; clear hm hb1 hbA R2))
      | (go_at_call 14; ((with_reducible refine (PR1.out _ _ HM.out).mono ?_); rintro e w2 ⟨rfl, hb2⟩; have hbw2 := bel3 hbw hb2; have R1b := Lib.hid (R1.out.keep hb2); have HMb := Lib.hid (HM.out.keep hb2 fun c x => blkRA_keep hb2)))
      | (go_at_call 9; ((with_reducible refine (PB.out _).mono ?_); rintro e w3 ⟨⟨p2, m2, c2, he, hm2⟩, hb3⟩; have he : e = .returned (.tuple #[.agg #[.string K, .slice p2 m2 c2], .agg #[.int .i64 0, .int .i64 0]]) := he; have hm2 : Made w2.heap.size (fun W => SliceOf (blkRA lnN) 4 W (.slice p2 m2 c2) (reline s).2) w3 := hm2; subst he; obtain ⟨R3, R4, hbB⟩ := (boxes w3 (.string K) (.slice p2 m2 c2) (.int .i64 0) (.int .i64 0) 24 27).out; have R3 := Lib.hid R3; have R4 := Lib.hid R4; have HM2 := Lib.hid (hm2.keep hbB).now; have hb4 := bel3 hb3 hbB; have hbw3 := bel3 hbw2 hb4; have R1c := Lib.hid (R1b.out.keep hb4); have HMc := Lib.hid (HMb.out.keep hb4 fun c x => blkRA_keep hb4); obtain ⟨g0, g1⟩ := R3.out.two; clear hm2 hb3 hbB))
      | (go_at_call 14; ((with_reducible refine (PR2.out _ _ HM2.out).mono ?_); rintro e w5 ⟨rfl, hb5⟩; have hbw5 := bel3 hbw3 hb5; have R1d := Lib.hid (R1c.out.keep hb5); have R3d := Lib.hid (R3.out.keep hb5); have R4d := Lib.hid (R4.out.keep hb5); have HMd := Lib.hid (HMc.out.keep hb5 fun c x => blkRA_keep hb5); have HM2d := Lib.hid (HM2.out.keep hb5 fun c x => blkRA_keep hb5)))
      | (go_at_call 11; ((with_reducible refine (AW.out _).mono ?_); rintro e w6 ⟨rfl, hb6⟩; have hbw6 := bel3 hbw5 hb6; obtain ⟨d0, d1⟩ := (R1d.out.keep hb6).two; obtain ⟨e0, e1⟩ := (R3d.out.keep hb6).two; obtain ⟨f0, f1⟩ := (R4d.out.keep hb6).two; have HMe := Lib.hid (HMd.out.keep hb6 fun c x => blkRA_keep hb6); have HM2e := Lib.hid (HM2d.out.keep hb6 fun c x => blkRA_keep hb6)))
      | (go_at_call 12; ((with_reducible refine (EQ.out _ _ _ HM2e.out HMe.out).mono ?_); rintro e w7 ⟨rfl, hb7⟩)))
    go_ret
    exact ⟨rfl, bel3 hbw6 hb7⟩

end Go.Proofs.Ythdcgplocdehjaa
