/- Contracts and plain facts, part 17: Hf, He, TO, OI, HO. No condition beyond those that each theorem states. -/
import Derived.Test.YtbnhgmikegdppaaGreatQP
import Derived.Deep.RegionLaw
import Derived.Deep.RegionHeld3
import Derived.Deep.DeepCutAuto
import Derived.Deep.Slices
import Derived.Lib.SmallJoins
import Derived.Deep.Strs
/- The reference's Irv at a contest that does not fit; the reference's Order. -/
namespace Go.Proofs.Nums
theorem count_short {whole : Bool} {brk : List (List Int) → List Int → Int} {gs : List Grp} : ∀ (k : Nat) (rem : List Bool) (ear : List (List Int)), ∀ r ∈ countS whole brk gs k rem ear, r.el.length ≤ 1 ∧ r.ex.length ≤ 1
  | 0, _, _ => fun r hr => by simp [countS] at hr
  | k + 1, rem, ear => fun r hr => by
    unfold countS at hr
    split at hr
    · rw [List.mem_singleton] at hr
      subst hr
      simp [mkR]
    · rcases List.mem_cons.1 hr with rfl | hr
      · simp [mkR]
      · exact count_short k _ _ r hr
/-- What the reference's Order writes down of the first k rounds. -/
def outR (R : List Rnd) (k : Nat) : List Int := (R.take k).flatMap fun r => r.ex ++ r.el
theorem outR_step {R : List Rnd} {k : Nat} {r : Rnd} (h : R[k]? = some r) : outR R (k + 1) = outR R k ++ r.ex ++ r.el := by
  unfold outR
  have hk := (List.getElem?_eq_some_iff.1 h).1
  have e : R[k] = r := (List.getElem?_eq_some_iff.1 h).2
  rw [List.take_succ_eq_append_getElem hk, List.flatMap_append, e]
  simp
end Go.Proofs.Nums
namespace Go.Proofs.YtbnhgmikegdppaaGreat
open Go.RowKit Go.Proofs.Kit Go.Proofs.Nums

set_option maxRecDepth 100000 in
set_option maxHeartbeats 4000000 in
theorem rirv_bad (whole : Bool) {C : ConP} {vg vl : Value} {gs : List Grp} {lots : List Int} {w : World} (hn : C.n ≤ 1000) (hg : PileAt w vg gs) (hl : IntsAt w vl lots) (hf : fitC C gs lots ≠ 0) :
    Calls Tryz.prog 13 #[conC C, vg, vl, .bool whole] w fun e w' => e = .returned (.tuple #[.agg #[.int .i64 0, .int .i64 0, .int .i64 0, .int .i64 0, .slice none 0 0, .slice none 0 0], .int .i64 (fitC C gs lots)]) ∧ Below w.heap.size w w' := by
  have FT := fun wq (h : Below w.heap.size w wq) => rfit_c (nm := C.nm) (p := C.p) (n := C.n) (c := C.c) (cm := C.cm) (seats := C.seats) (ranks := C.ranks) (digits := C.digits) (ties := C.ties) (over := C.over) (skip := C.skip) hn (hg.keep h) (hl.keep h)
  unfold conC
  unfold fitC at hf ⊢
  obtain ⟨nm, p, n, c, cm, seats, ranks, digits, ties, over, skip⟩ := C
  simp only at FT hf hn ⊢
  obtain ⟨z, hz⟩ : ∃ z, fitS n cm seats digits ties gs lots = z := ⟨_, rfl⟩
  rw [hz] at hf ⊢
  have FT : Hid (∀ wq, Below w.heap.size w wq → Calls Tryz.prog 30 #[.int .i64 1, conV nm p n c cm seats ranks digits ties over skip, vg, vl] wq fun e w' => e = .returned (.int .i64 z) ∧ Below wq.heap.size wq w') := Lib.hid (fun wq h => by have := FT wq h; rw [hz] at this; exact this)
  unfold conV at FT ⊢
  have hbX : Below w.heap.size w (w.alloc (.cells #[nm, .slice p n c, .int .i64 cm, .int .i64 seats, .int .i64 ranks, .int .i64 digits, .int .i64 ties, .int .i64 over, .int .i64 skip] 24)) := (Below.refl _ _).alloc (Nat.le_refl _) _
  have hbY := hbX.alloc hbX.size (.cells #[.int .i64 0, .int .i64 0, .int .i64 0, .int .i64 0, .slice none 0 0, .slice none 0 0] 37)
  have hze : (z == 0) = false := by rw [beq_eq_false_iff_ne]; exact hf
  have hze' : (z != 0) = true := by simpa using hf
  have HF := Lib.hid hbY
  clear hg hl hz
  go_enter Tryz.func13, Tryz.ntmps13
  go_wp2_with (go_at_call 30; ((with_reducible refine (FT.out _ hbY).mono ?_); rintro _ w1 ⟨rfl, hb1⟩; have KY := (Blk.new (w.alloc (.cells #[nm, .slice p n c, .int .i64 cm, .int .i64 seats, .int .i64 ranks, .int .i64 digits, .int .i64 ties, .int .i64 over, .int .i64 skip] 24)) #[.int .i64 0, .int .i64 0, .int .i64 0, .int .i64 0, .slice none 0 0, .slice none 0 0] 37).keep hb1; have c0 := KY.2.1 0; have c1 := KY.2.1 1; have c2 := KY.2.1 2; have c3 := KY.2.1 3; have c4 := KY.2.1 4; have c5 := KY.2.1 5; have f0 := KY.2.2 0; have f1 := KY.2.2 1; have f2 := KY.2.2 2; have f3 := KY.2.2 3; have f4 := KY.2.2 4; have f5 := KY.2.2 5; clear KY; simp at c0 c1 c2 c3 c4 c5 f0 f1 f2 f3 f4 f5))
  refine bodyPost_ret (v := .tuple #[.agg #[.int .i64 0, .int .i64 0, .int .i64 0, .int .i64 0, .slice none 0 0, .slice none 0 0], .int .i64 z]) (by simp [results, Tryz.results13, go_sem, c0, c1, c2, c3, c4, c5]) rfl ?_
  refine ⟨rfl, ?_⟩
  have hb := bel2' HF.out hb1
  have one : ∀ {w2 : World} (j : Nat) (v : Value), Below w.heap.size w w2 → Below w.heap.size w (w2.setCell ⟨w.heap.size + 1, j, none⟩ v) := fun {w2} j v h => h.setCell (p := ⟨w.heap.size + 1, j, none⟩) (Nat.le_succ _) v
  exact one _ _ (one _ _ (one _ _ (one _ _ (one _ _ (one _ _ hb)))))


set_option maxRecDepth 100000 in
set_option maxHeartbeats 4000000 in
theorem rorder_bad {C : ConP} {vg vl : Value} {gs : List Grp} {lots : List Int} {w : World} (hn : C.n ≤ 1000) (hg : PileAt w vg gs) (hl : IntsAt w vl lots) (hf : fitC C gs lots ≠ 0) :
    Calls Tryz.prog 16 #[conC C, vg, vl] w fun e w' => e = .returned (.tuple #[.slice none 0 0, .int .i64 (fitC C gs lots)]) ∧ Below w.heap.size w w' := by
  have IR := fun wq (h : Below w.heap.size w wq) => rirv_bad true (C := C) hn (hg.keep h) (hl.keep h) hf
  unfold conC conV at IR ⊢
  obtain ⟨z, hz⟩ : ∃ z, fitC C gs lots = z := ⟨_, rfl⟩
  rw [hz] at hf IR ⊢
  have IR := Lib.hid IR
  have hbX : Below w.heap.size w (w.alloc (.cells #[C.nm, .slice C.p C.n C.c, .int .i64 C.cm, .int .i64 C.seats, .int .i64 C.ranks, .int .i64 C.digits, .int .i64 C.ties, .int .i64 C.over, .int .i64 C.skip] 24)) := (Below.refl _ _).alloc (Nat.le_refl _) _
  have KX := Blk.new w #[C.nm, .slice C.p C.n C.c, .int .i64 C.cm, .int .i64 C.seats, .int .i64 C.ranks, .int .i64 C.digits, .int .i64 C.ties, .int .i64 C.over, .int .i64 C.skip] 24
  obtain ⟨x0, x1, x2, x3, x4, x5, x6, x7, x8⟩ := nine_cells KX
  have hze : (z == 0) = false := by rw [beq_eq_false_iff_ne]; exact hf
  have hze' : (z != 0) = true := by simpa using hf
  clear hg hl hz KX
  go_enter Tryz.func16, Tryz.ntmps16
  go_wp2_with (first | (go_at_call 13; ((with_reducible refine (IR.out _ hbX).mono ?_); rintro _ w1 ⟨rfl, hb1⟩)))
  go_ret2
  exact ⟨rfl, below_al (bel2' hbX hb1) _⟩

set_option maxRecDepth 100000 in
set_option maxHeartbeats 8000000 in
theorem rorder_c {C : ConP} {vg vl : Value} {gs : List Grp} {lots : List Int} {w : World} (hg : PileAt w vg gs) (hl : IntsAt w vl lots) (hok : OkC C gs lots) :
    Calls Tryz.prog 16 #[conC C, vg, vl] w fun e w' => ∃ v', e = .returned (.tuple #[v', .int .i64 0]) ∧ IntsAt w' v' (orderS (brkS C.ties lots) gs C.n (List.replicate C.n true) []) ∧ Below w.heap.size w w' := by
  have hn1 := hok.n1
  have hn7 := hok.n7
  have hoc := order_of_count (gs := gs) C.n (List.replicate C.n true) [] (by rw [List.length_replicate]; exact hok.brk) (by rw [alive_all_len]; exact Nat.le_refl _) (fun e => by have := alive_all_len C.n; rw [e] at this; simp at this; omega)
  have hln := count_len (whole := true) (brk := brkS C.ties lots) (gs := gs) C.n (List.replicate C.n true) []
  have hsh := count_short (whole := true) (brk := brkS C.ties lots) (gs := gs) C.n (List.replicate C.n true) []
  have IR := fun wq (h : Below w.heap.size w wq) => rirv_c true (hg.keep h) (hl.keep h) hok
  obtain ⟨O, hO⟩ : ∃ o, orderS (brkS C.ties lots) gs C.n (List.replicate C.n true) [] = o := ⟨_, rfl⟩
  obtain ⟨R, hR⟩ : ∃ o, countS true (brkS C.ties lots) gs C.n (List.replicate C.n true) [] = o := ⟨_, rfl⟩
  rw [hO] at hoc ⊢
  rw [hR] at hoc hln hsh IR
  clear hO hR
  unfold conC conV at IR ⊢
  have IR : Hid (∀ wq, Below w.heap.size w wq → Calls Tryz.prog 13 #[.agg #[C.nm, .slice C.p C.n C.c, .int .i64 C.cm, .int .i64 C.seats, .int .i64 C.ranks, .int .i64 C.digits, .int .i64 C.ties, .int .i64 C.over, .int .i64 C.skip], vg, vl, .bool true] wq fun e w' => ∃ pr nr cr pw nw cw, e = .returned (.tuple #[.agg #[.int .i64 1, .int .i64 1, .int .i64 0, .int .i64 C.n, .slice pr nr cr, .slice pw nw cw], .int .i64 0]) ∧ Hid (nr = R.length) ∧ RndsAt w' (.slice pr nr cr) R ∧ Below wq.heap.size wq w') := Lib.hid (fun wq h => by
    refine (IR wq h).mono ?_
    rintro e w' ⟨vr, vw, x, rfl, g1, g2, _, g4⟩
    obtain ⟨pr, cr, rfl, _, _⟩ := SliceOf.shape g1.now
    obtain ⟨pw, cw, rfl⟩ := IntsAt.shape g2.now
    exact ⟨pr, _, cr, pw, _, cw, rfl, Lib.hid rfl, g1.now, g4⟩)
  have hbX : Below w.heap.size w (w.alloc (.cells #[C.nm, .slice C.p C.n C.c, .int .i64 C.cm, .int .i64 C.seats, .int .i64 C.ranks, .int .i64 C.digits, .int .i64 C.ties, .int .i64 C.over, .int .i64 C.skip] 24)) := (Below.refl _ _).alloc (Nat.le_refl _) _
  have KX := Blk.new w #[C.nm, .slice C.p C.n C.c, .int .i64 C.cm, .int .i64 C.seats, .int .i64 C.ranks, .int .i64 C.digits, .int .i64 C.ties, .int .i64 C.over, .int .i64 C.skip] 24
  obtain ⟨x0, x1, x2, x3, x4, x5, x6, x7, x8⟩ := nine_cells KX
  have HSH := Lib.hid hsh
  have HOC := Lib.hid hoc
  clear hg hl hok KX hoc hsh
  go_enter Tryz.func16, Tryz.ntmps16
  go_wp2_with (first | (go_at_call 13; ((with_reducible refine (IR.out _ hbX).mono ?_); rintro _ w1 ⟨pr, nr, cr, pw, nw, cw, rfl, HNR, h1, hb1⟩)))
  have K2 := Blk.new w1 #[.int .i64 1, .int .i64 1, .int .i64 0, .int .i64 C.n, .slice pr nr cr, .slice pw nw cw] 37
  have h2 := h1.keep (below_al (Below.refl _ _) (.cells #[.int .i64 1, .int .i64 1, .int .i64 0, .int .i64 C.n, .slice pr nr cr, .slice pw nw cw] 37))
  have hb2 : Below w.heap.size w (w1.alloc (.cells #[.int .i64 1, .int .i64 1, .int .i64 0, .int .i64 C.n, .slice pr nr cr, .slice pw nw cw] 37)) := below_al (bel2' hbX hb1) _
  obtain ⟨W2, hW2⟩ : ∃ W, w1.alloc (.cells #[.int .i64 1, .int .i64 1, .int .i64 0, .int .i64 C.n, .slice pr nr cr, .slice pw nw cw] 37) = W := ⟨_, rfl⟩
  rw [hW2] at K2 h2 hb2 ⊢
  obtain ⟨X, hX⟩ : ∃ X, w1.heap.size = X := ⟨_, rfl⟩
  rw [hX] at K2 ⊢
  have t4 := K2.2.1 4
  simp only [List.getElem?_toArray, List.getElem?_cons_zero, List.getElem?_cons_succ] at t4
  have H2 := Lib.hid h2
  have T4 := Lib.hid t4
  have HB2 := Lib.hid hb2
  have hnr7 : nr ≤ 7 := by rw [HNR.out]; omega
  clear x0 x1 x2 x3 x4 x5 x6 x7 x8 hbX hb1 h1 K2 hW2 hX t4 h2 hb2 hln
  go_loopw [10, 11] (fun ov iv wr => ∃ (i : Nat) (outs : List Int), i ≤ nr ∧ iv = .int .i64 i ∧ Hid (outs = outR R i) ∧ outs.length ≤ 2 * i ∧ wr.ownsRow W2.heap.size 3 1 ov outs.length (outs.map (Value.int .i64)) ∧ Below W2.heap.size W2 wr) (fun _ iv _ => nr - (intOf iv).toNat)
  case atStart => exact ⟨0, [], by omega, rfl, Lib.hid rfl, by simp, World.ownsRow_nil _ _ _ _, Below.refl _ _⟩
  case round =>
    obtain ⟨i, outs, hi, rfl, hout, hol, hown, hbel⟩ := hrel
    have t4r := cell_keep hbel T4.out
    by_cases hlt : i < nr
    · have hltz : (i : Int) < (nr : Int) := by omega
      obtain ⟨r, hr⟩ : ∃ r, R[i]? = some r := ⟨_, List.getElem?_eq_getElem (by rw [← HNR.out]; exact hlt)⟩
      have hsr := HSH.out r (List.mem_of_getElem? hr)
      have hst := outR_step hr
      obtain ⟨g, off, a, b, q1, q2, e1, e2, s1, s2, l1, l2, l3, e4, en1, hc1, hc2, V1, C1⟩ := rnd_at H2.out hr
      clear en1
      subst e4
      rw [← HNR.out] at hc1
      obtain ⟨pl1, cl1, e1'⟩ := V1.el.shape
      obtain ⟨pl2, cl2, e2'⟩ := V1.ex.shape
      subst e1'
      subst e2'
      have Vel := V1.el
      have Vex := V1.ex
      obtain ⟨c0r, c1r, c2r, c3r, c4r, c5r, c6r, c7r, c8r, c9r, c10r, c11r, c12r, c13r⟩ := C1
      obtain ⟨n1, hn1'⟩ : ∃ n, r.el.length = n := ⟨_, rfl⟩
      obtain ⟨n2, hn2'⟩ : ∃ n, r.ex.length = n := ⟨_, rfl⟩
      have lel : (r.el.map (Value.int .i64)).length = n1 := by rw [List.length_map]; exact hn1'
      have lex : (r.ex.map (Value.int .i64)).length = n2 := by rw [List.length_map]; exact hn2'
      rw [hn1'] at Vel hsr c11r
      rw [hn2'] at Vex hsr c12r
      obtain ⟨hs1, hs2⟩ := hsr
      have S0 : Hid (∀ W', Below W2.heap.size W2 W' → W'.cell? ⟨X, 4, none⟩ = some (.slice (some ⟨g, off, none⟩) nr cr) ∧ W'.cell? ⟨g, off + i * 14 + 11, none⟩ = some (.slice pl1 n1 cl1) ∧ W'.cell? ⟨g, off + i * 14 + 12, none⟩ = some (.slice pl2 n2 cl2)) := Lib.hid (fun W' h => ⟨cell_keep h T4.out, cell_keep h c11r, cell_keep h c12r⟩)
      obtain ⟨no, hno⟩ : ∃ n, outs.length = n := ⟨_, rfl⟩
      have HNO := Lib.hid hno
      rw [hno] at hown hol
      have hbD : Below W2.heap.size W2 wr.drew := hbel.drew
      have hownD := ownsRow_below hown (Below.refl wr.heap.size wr).drew
      obtain ⟨po, co, rfl, hmc, hcm⟩ := own_shp hown
      have HST : Hid (outs ++ r.ex ++ r.el = outR R (i + 1)) := Lib.hid (by rw [hst, hout.out])
      have HN1 := Lib.hid hn1'
      have HN2 := Lib.hid hn2'
      obtain ⟨EXM, hEXM⟩ : ∃ l, r.ex.map (Value.int .i64) = l := ⟨_, rfl⟩
      obtain ⟨ELM, hELM⟩ : ∃ l, r.el.map (Value.int .i64) = l := ⟨_, rfl⟩
      obtain ⟨OM, hOM⟩ : ∃ l, outs.map (Value.int .i64) = l := ⟨_, rfl⟩
      have O1 : Hid (∀ u ∈ EXM, u.oneCell' = true) := Lib.hid (by rw [← hEXM]; exact ints_one _)
      have O2 : Hid (∀ u ∈ ELM, u.oneCell' = true) := Lib.hid (by rw [← hELM]; exact ints_one _)
      have HEL : Hid (∀ W', Below W2.heap.size W2 W' → RowAt W' (.slice pl1 n1 cl1) ELM) := Lib.hid (fun W' h => by rw [← hELM]; exact Vel.keep h)
      have HEX : Hid (∀ W', Below W2.heap.size W2 W' → RowAt W' (.slice pl2 n2 cl2) EXM) := Lib.hid (fun W' h => by rw [← hEXM]; exact Vex.keep h)
      have HXM := Lib.hid hEXM
      have HLM := Lib.hid hELM
      have HOM := Lib.hid hOM
      rw [hEXM] at lex
      rw [hELM] at lel
      rw [hOM] at hownD
      have hownD := Lib.hid hownD
      have hno14 : no ≤ 14 := by omega
      obtain ⟨z4, z11, z12⟩ := S0.out _ hbD
      clear hr hst V1 c0r c1r c2r c3r c4r c5r c6r c7r c8r c9r c10r c11r c12r c13r hn1' hn2' Vel Vex hown hEXM hELM hOM hno
      go_wp2_with fail
      go_region_law (first
        | (refine step_append_read erI (by rfl) (by rfl) hown31 (by rfl) (xv := .slice pl1 n1 cl1) (HEL.out _ hb31) (by rfl) O2.out (by omega) (by omega) hb31.size ?_; intro v32 w32 hown32 hc32; have hb32 : Below W2.heap.size W2 w32 := hb31.trans hc32)
        | (refine step_append_read erI (by rfl) (by rfl) hownD.out (by rfl) (xv := .slice pl2 n2 cl2) (HEX.out _ hbD) (by rfl) O1.out (by omega) (by omega) hbD.size ?_; intro v31 w31 hown31 hc31; have hb31 : Below W2.heap.size W2 w31 := hbD.trans hc31; obtain ⟨y4, y11, y12⟩ := S0.out _ hb31))
      all_goals
        go_wp2_with fail
        go_roundw
        case rel =>
          refine ⟨i + 1, outs ++ r.ex ++ r.el, by omega, by go_num, HST, ?_, ?_, hb32⟩
          · rw [List.length_append, List.length_append, HNO.out, HN2.out, HN1.out]
            omega
          · rw [List.length_append, List.length_append, HNO.out, HN2.out, HN1.out, List.map_append, List.map_append, HOM.out, HXM.out, HLM.out]
            rw [lex, lel] at hown32
            exact hown32
        case measure => simp [intOf] <;> omega
    · obtain rfl : nr = i := by omega
      have hltz : ¬ (nr : Int) < (nr : Int) := by omega
      have hI := RowAt.owned hown
      have ho : outs = O := by rw [hout.out, ← HOC.out]; unfold outR; rw [List.take_of_length_le (by rw [HNR.out]; exact Nat.le_refl _)]
      go_wp2_with fail
      go_ret2
      exact ⟨_, rfl, by rw [← ho]; exact hI, bel2' HB2.out hbel⟩

end Go.Proofs.YtbnhgmikegdppaaGreat

/- The reference's Equal. -/
namespace Go.Proofs.YtbnhgmikegdppaaGreat
open Go.RowKit Go.Proofs.Kit Go.Proofs.Nums

set_option maxRecDepth 100000 in
set_option maxHeartbeats 8000000 in
theorem requal_c {m s d c : Int} {vr vw vr' vw' : Value} {R : List Rnd} {l : List Int} {w : World} (h1 : RndsAt w vr R) (h2 : RndsAt w vr' R) (h3 : IntsAt w vw l) (h4 : IntsAt w vw' l) (h7 : R.length ≤ 7) :
    Calls Tryz.prog 14 #[.agg #[.int .i64 m, .int .i64 s, .int .i64 d, .int .i64 c, vr, vw], .agg #[.int .i64 m, .int .i64 s, .int .i64 d, .int .i64 c, vr', vw']] w fun e w' => e = .returned (.bool true) ∧ Below w.heap.size w w' := by
  have H1 := Lib.hid h1
  have H2 := Lib.hid h2
  have EQ : Hid (∀ wq, Below w.heap.size w wq → Calls Tryz.prog 17 #[vw, vw'] wq fun e w' => e = .returned (.bool true) ∧ Below wq.heap.size wq w') := Lib.hid (fun wq h => by
    have := eq_c (h3.keep h) (h4.keep h)
    rwa [decide_eq_true rfl] at this)
  obtain ⟨pr, cr, rfl, _, _⟩ := SliceOf.shape h1
  obtain ⟨pr', cr', rfl, _, _⟩ := SliceOf.shape h2
  obtain ⟨pw, cw, rfl⟩ := h3.shape
  obtain ⟨pw', cw', rfl⟩ := h4.shape
  obtain ⟨k, hk⟩ : ∃ k, l.length = k := ⟨_, rfl⟩
  rw [hk] at EQ ⊢
  obtain ⟨n, hn⟩ : ∃ n, R.length = n := ⟨_, rfl⟩
  rw [hn] at H1 H2 h7 ⊢
  have HN := Lib.hid hn
  have qm : (m != m) = false := by simp
  have qs : (s != s) = false := by simp
  have qd : (d != d) = false := by simp
  have qc : (c != c) = false := by simp
  have qn : ((n : Int) != (n : Int)) = false := by simp
  have KX := (Blk.new w #[.int .i64 m, .int .i64 s, .int .i64 d, .int .i64 c, .slice pr n cr, .slice pw k cw] 37).alloc (.cells #[.int .i64 m, .int .i64 s, .int .i64 d, .int .i64 c, .slice pr' n cr', .slice pw' k cw'] 37)
  have KY := Blk.new (w.alloc (.cells #[.int .i64 m, .int .i64 s, .int .i64 d, .int .i64 c, .slice pr n cr, .slice pw k cw] 37)) #[.int .i64 m, .int .i64 s, .int .i64 d, .int .i64 c, .slice pr' n cr', .slice pw' k cw'] 37
  rw [show (w.alloc (.cells #[.int .i64 m, .int .i64 s, .int .i64 d, .int .i64 c, .slice pr n cr, .slice pw k cw] 37)).heap.size = w.heap.size + 1 by simp] at KY
  have hbW : Below w.heap.size w ((w.alloc (.cells #[.int .i64 m, .int .i64 s, .int .i64 d, .int .i64 c, .slice pr n cr, .slice pw k cw] 37)).alloc (.cells #[.int .i64 m, .int .i64 s, .int .i64 d, .int .i64 c, .slice pr' n cr', .slice pw' k cw'] 37)) := below_al (below_al (Below.refl _ _) _) _
  obtain ⟨W0, hW0⟩ : ∃ W, (w.alloc (.cells #[.int .i64 m, .int .i64 s, .int .i64 d, .int .i64 c, .slice pr n cr, .slice pw k cw] 37)).alloc (.cells #[.int .i64 m, .int .i64 s, .int .i64 d, .int .i64 c, .slice pr' n cr', .slice pw' k cw'] 37) = W := ⟨_, rfl⟩
  rw [hW0] at KX KY hbW
  obtain ⟨x0, x1, x2, x3, x4, x5⟩ := cells6 KX
  obtain ⟨y0, y1, y2, y3, y4, y5⟩ := cells6 KY
  clear h1 h2 h3 h4 hk hn
  go_enter Tryz.func14, Tryz.ntmps14
  go_wp2_with (go_at_call 17; ((with_reducible refine (EQ.out _ hbW).mono ?_); rintro _ w1 ⟨rfl, hb1⟩; have x4b := cell_keep hb1 x4; have y4b := cell_keep hb1 y4))
  have hbw1 := bel2' hbW hb1
  obtain ⟨X, hX⟩ : ∃ X, w.heap.size = X := ⟨_, rfl⟩
  obtain ⟨Y, hY⟩ : ∃ Y, w.heap.size + 1 = Y := ⟨_, rfl⟩
  have HB := Lib.hid hbw1
  have x4 := Lib.hid x4b
  have y4 := Lib.hid y4b
  rw [hX] at x4
  rw [hY] at y4
  rw [hY]
  have HX := Lib.hid hX
  clear x4b y4b x0 x1 x2 x3 x5 y0 y1 y2 y3 y5 KX KY hbW hW0 hb1 hbw1 hY
  rw [hX]
  clear hX
  go_loopw [5] (fun iv wr => ∃ i : Nat, i ≤ n ∧ iv = .int .i64 i ∧ Below w1.heap.size w1 wr) (fun iv _ => n - (intOf iv).toNat)
  case atStart => exact ⟨0, by omega, rfl, Below.refl _ _⟩
  case round =>
    obtain ⟨i, hi, rfl, hbel⟩ := hrel
    have x4r := cell_keep hbel x4.out
    have y4r := cell_keep hbel y4.out
    by_cases hlt : i < n
    · have hltz : (i : Int) < (n : Int) := by omega
      obtain ⟨r, hr⟩ : ∃ r, R[i]? = some r := ⟨_, List.getElem?_eq_getElem (by rw [HN.out]; exact hlt)⟩
      obtain ⟨g, off, a, b, q1, q2, e1, e2, s1, s2, l1, l2, l3, e4, en1, hc1, hc2, V1, C1⟩ := rnd_at (H1.out.keep (bel2' HB.out hbel)) hr
      obtain ⟨g', off', a', b', q1', q2', e1', e2', s1', s2', l1', l2', l3', e5, en2, hc3, hc4, V2, C2⟩ := rnd_at (H2.out.keep (bel2' HB.out hbel)) hr
      clear en1 en2
      subst e4
      subst e5
      rw [HN.out] at hc1 hc3
      obtain ⟨pa, na, ca, pb, nb, cb, pq1, nq1, cq1, pq2, nq2, cq2, pe1, ne1, ce1, pe2, ne2, ce2, ps1, ns1, cs1, ps2, ns2, cs2, pl1, nl1, cl1, pl2, nl2, cl2, pl3, nl3, cl3, rfl, rfl, rfl, rfl, rfl, rfl, rfl, rfl, rfl, rfl, rfl⟩ := rndv_sh V1
      obtain ⟨pa', na', ca', pb', nb', cb', pq1', nq1', cq1', pq2', nq2', cq2', pe1', ne1', ce1', pe2', ne2', ce2', ps1', ns1', cs1', ps2', ns2', cs2', pl1', nl1', cl1', pl2', nl2', cl2', pl3', nl3', cl3', rfl, rfl, rfl, rfl, rfl, rfl, rfl, rfl, rfl, rfl, rfl⟩ := rndv_sh V2
      have V1 := Lib.hid V1
      have V2 := Lib.hid V2
      have C1 := Lib.hid C1
      have C2 := Lib.hid C2
      have x4h := Lib.hid x4r
      have y4h := Lib.hid y4r
      have HALL : Hid (∀ W', Below wr.heap.size wr W' → W'.cell? ⟨X, 4, none⟩ = some (.slice (some ⟨g, off, none⟩) n cr) ∧ W'.cell? ⟨Y, 4, none⟩ = some (.slice (some ⟨g', off', none⟩) n cr') ∧ RndC W' g (off + i * 14) (.slice pa na ca) (.slice pb nb cb) (.slice pq1 nq1 cq1) (.slice pq2 nq2 cq2) (.slice pe1 ne1 ce1) (.slice pe2 ne2 ce2) (.slice ps1 ns1 cs1) (.slice ps2 ns2 cs2) (.slice pl1 nl1 cl1) (.slice pl2 nl2 cl2) (.slice pl3 nl3 cl3) ∧ RndC W' g' (off' + i * 14) (.slice pa' na' ca') (.slice pb' nb' cb') (.slice pq1' nq1' cq1') (.slice pq2' nq2' cq2') (.slice pe1' ne1' ce1') (.slice pe2' ne2' ce2') (.slice ps1' ns1' cs1') (.slice ps2' ns2' cs2') (.slice pl1' nl1' cl1') (.slice pl2' nl2' cl2') (.slice pl3' nl3' cl3')) := Lib.hid (fun W' h => ⟨cell_keep h x4h.out, cell_keep h y4h.out, C1.out.keep h, C2.out.keep h⟩)
      unfold RndC at HALL
      have SR : Hid (∀ wq, Below wr.heap.size wr wq → Calls Tryz.prog 40 #[.agg #[.slice pa na ca, .slice pb nb cb, .bool false, .slice pq1 nq1 cq1, .slice pq2 nq2 cq2, .bool false, .slice pe1 ne1 ce1, .slice pe2 ne2 ce2, .bool false, .slice ps1 ns1 cs1, .slice ps2 ns2 cs2, .slice pl1 nl1 cl1, .slice pl2 nl2 cl2, .slice pl3 nl3 cl3], .agg #[.slice pa' na' ca', .slice pb' nb' cb', .bool false, .slice pq1' nq1' cq1', .slice pq2' nq2' cq2', .bool false, .slice pe1' ne1' ce1', .slice pe2' ne2' ce2', .bool false, .slice ps1' ns1' cs1', .slice ps2' ns2' cs2', .slice pl1' nl1' cl1', .slice pl2' nl2' cl2', .slice pl3' nl3' cl3']] wq fun e w' => e = .returned (.bool true) ∧ Below wq.heap.size wq w') := Lib.hid (fun wq h => sameround_c (V1.out.keep h) (V2.out.keep h))
      have BD : Below wr.heap.size wr wr.drew := (Below.refl _ _).drew
      have hro := Lib.hid hbel
      clear hr hbel
      go_wp2_with fail
      go_region_held3 (fun W' => W'.cell? ⟨X, 4, none⟩ = some (.slice (some ⟨g, off, none⟩) n cr) ∧ W'.cell? ⟨Y, 4, none⟩ = some (.slice (some ⟨g', off', none⟩) n cr') ∧ (W'.cell? ⟨g, off + i * 14, none⟩ = some (.slice pa na ca) ∧ W'.cell? ⟨g, off + i * 14 + 1, none⟩ = some (.slice pb nb cb) ∧ W'.cell? ⟨g, off + i * 14 + 2, none⟩ = some (.bool false) ∧ W'.cell? ⟨g, off + i * 14 + 3, none⟩ = some (.slice pq1 nq1 cq1) ∧ W'.cell? ⟨g, off + i * 14 + 4, none⟩ = some (.slice pq2 nq2 cq2) ∧ W'.cell? ⟨g, off + i * 14 + 5, none⟩ = some (.bool false) ∧ W'.cell? ⟨g, off + i * 14 + 6, none⟩ = some (.slice pe1 ne1 ce1) ∧ W'.cell? ⟨g, off + i * 14 + 7, none⟩ = some (.slice pe2 ne2 ce2) ∧ W'.cell? ⟨g, off + i * 14 + 8, none⟩ = some (.bool false) ∧ W'.cell? ⟨g, off + i * 14 + 9, none⟩ = some (.slice ps1 ns1 cs1) ∧ W'.cell? ⟨g, off + i * 14 + 10, none⟩ = some (.slice ps2 ns2 cs2) ∧ W'.cell? ⟨g, off + i * 14 + 11, none⟩ = some (.slice pl1 nl1 cl1) ∧ W'.cell? ⟨g, off + i * 14 + 12, none⟩ = some (.slice pl2 nl2 cl2) ∧ W'.cell? ⟨g, off + i * 14 + 13, none⟩ = some (.slice pl3 nl3 cl3)) ∧ (W'.cell? ⟨g', off' + i * 14, none⟩ = some (.slice pa' na' ca') ∧ W'.cell? ⟨g', off' + i * 14 + 1, none⟩ = some (.slice pb' nb' cb') ∧ W'.cell? ⟨g', off' + i * 14 + 2, none⟩ = some (.bool false) ∧ W'.cell? ⟨g', off' + i * 14 + 3, none⟩ = some (.slice pq1' nq1' cq1') ∧ W'.cell? ⟨g', off' + i * 14 + 4, none⟩ = some (.slice pq2' nq2' cq2') ∧ W'.cell? ⟨g', off' + i * 14 + 5, none⟩ = some (.bool false) ∧ W'.cell? ⟨g', off' + i * 14 + 6, none⟩ = some (.slice pe1' ne1' ce1') ∧ W'.cell? ⟨g', off' + i * 14 + 7, none⟩ = some (.slice pe2' ne2' ce2') ∧ W'.cell? ⟨g', off' + i * 14 + 8, none⟩ = some (.bool false) ∧ W'.cell? ⟨g', off' + i * 14 + 9, none⟩ = some (.slice ps1' ns1' cs1') ∧ W'.cell? ⟨g', off' + i * 14 + 10, none⟩ = some (.slice ps2' ns2' cs2') ∧ W'.cell? ⟨g', off' + i * 14 + 11, none⟩ = some (.slice pl1' nl1' cl1') ∧ W'.cell? ⟨g', off' + i * 14 + 12, none⟩ = some (.slice pl2' nl2' cl2') ∧ W'.cell? ⟨g', off' + i * 14 + 13, none⟩ = some (.slice pl3' nl3' cl3')))
        (first | with_reducible exact HALL.out _ b25 | with_reducible exact HALL.out _ BD)
        (first | (go_at_call 40; ((with_reducible refine (SR.out _ BD).mono ?_); rintro _ w25 ⟨rfl, hb25⟩; have b25 := bel2' BD hb25)))
      all_goals
        go_wp2_with fail
        go_roundw
        case rel => exact ⟨i + 1, by omega, by go_num, bel2' hro.out b25⟩
        case measure => simp [intOf] <;> omega
    · obtain rfl : n = i := by omega
      have hltz : ¬ (n : Int) < (n : Int) := by omega
      go_wp2_with fail
      go_ret
      exact ⟨rfl, bel2' HB.out hbel⟩

end Go.Proofs.YtbnhgmikegdppaaGreat

/- A row of integers and a list of such rows that come in are opened. -/
namespace Go.Proofs.YtbnhgmikegdppaaGreat
open Go.ChangeShapes Go.WideShapes Go.ChangeAt Go.RowKit Go.Proofs.Kit Go.Proofs.Nums

set_option maxRecDepth 100000 in
theorem ints_cell {H : Type} {enc : TypeId × Value → H} {v : Value} {W : World} {n : Nat} {y : DataW H × List MemPlace} (hm : DataW.trod enc Tryz.prog W 0 (fun _ => true) true n 26 [v] = some y) : ∃ l, IntsAt W v l := by
  obtain ⟨a, len, cap, hs⟩ := Joins.slice_form Tryz.underlying26 hm
  obtain rfl : v = .slice a len cap := List.head_eq_of_cons_eq hs
  rcases open_ints Tryz.underlying26 Tryz.underlying3 (by kernel_rfl) hm with ⟨hcs, _⟩ | ⟨x, l, c, zs, hcs, _, hl, hmx, hz, _, hcell, hwz⟩
  · obtain ⟨rfl, rfl, rfl⟩ : a = none ∧ len = 0 ∧ cap = 0 := by
      have : Value.slice a len cap = .slice none 0 0 := List.head_eq_of_cons_eq hcs
      simpa using this
    exact ⟨[], RowAt.nil W⟩
  · obtain ⟨rfl, rfl, rfl⟩ : a = some x ∧ len = l ∧ cap = c := by
      have : Value.slice a len cap = .slice (some x) l c := List.head_eq_of_cons_eq hcs
      simpa using this
    have hz' : zs.length = cap := by simpa using hz
    refine ⟨zs.take len, some x, cap, ?_, ?_, ?_, ?_, ?_⟩
    · simp; omega
    · simp; omega
    · unfold maxLen at hmx; omega
    · simp
    · rintro q hq i u hu
      simp only [Option.some.injEq] at hq
      subst hq
      rw [List.getElem?_map] at hu
      by_cases hi : i < (zs.take len).length
      · rw [List.getElem?_eq_getElem hi] at hu
        simp only [Option.map_some, Option.some.injEq] at hu
        have hil : i < zs.length := by rw [List.length_take] at hi; omega
        rw [hcell i hil, ← hu]
        have e : zs.getD i 0 = zs[i] := by rw [List.getD_eq_getElem?_getD, List.getElem?_eq_getElem hil]; rfl
        rw [e, List.getElem_take]
      · rw [List.getElem?_eq_none (by omega)] at hu; simp at hu
set_option maxRecDepth 100000 in
/-- An argument of type []int. -/
theorem ints_open {H : Type} {enc : TypeId × Value → H} {v : Value} {d : DataW H} {p : List MemPlace} {base : Nat} {W : World} (hv : Value.okWide Tryz.prog W .any base 26 v)
    (h : DataW.Trod enc Tryz.prog W 0 (fun _ => true) true 26 v d p) : ∃ l, IntsAt W v l := by
  obtain ⟨a, len, cap, rfl⟩ := okWide_slice Tryz.underlying26 hv
  obtain ⟨m, hm⟩ := h
  exact ints_cell hm
set_option maxRecDepth 100000 in
/-- An argument of type [][]int. -/
theorem grid_open {H : Type} {enc : TypeId × Value → H} {v : Value} {d : DataW H} {p : List MemPlace} {base : Nat} {W : World} (hv : Value.okWide Tryz.prog W .any base 27 v)
    (h : DataW.Trod enc Tryz.prog W 0 (fun _ => true) true 27 v d p) : ∃ L, GridAt W v L := by
  obtain ⟨a, len, cap, rfl⟩ := okWide_slice Tryz.underlying27 hv
  obtain ⟨m, hm⟩ := h
  rcases Go.Deep.open_slice1 Tryz.underlying27 (by kernel_rfl) hm with ⟨hcs, _⟩ | ⟨x, l, c, mm, n, V, D, Pl, hcs, _, hl, hmx, hmm, _, hx⟩
  · obtain ⟨rfl, rfl, rfl⟩ : a = none ∧ len = 0 ∧ cap = 0 := by
      have : Value.slice a len cap = .slice none 0 0 := List.head_eq_of_cons_eq hcs
      simpa using this
    exact ⟨[], SliceOf.nil W⟩
  · obtain ⟨rfl, rfl, rfl⟩ : a = some x ∧ len = l ∧ cap = c := by
      have : Value.slice a len cap = .slice (some x) l c := List.head_eq_of_cons_eq hcs
      simpa using this
    simp only [if_true] at hmm
    subst hmm
    obtain ⟨Z, hZ⟩ := Go.Deep.choose_lt (fun i hi => ints_cell (hx i hi).2)
    refine ⟨(List.range len).map Z, (List.range len).map (fun i => [V i]), some x, mm, by simp, by simpa using hl, by unfold maxLen at hmx; omega, (fun h => by cases h), by simp, (fun c hc => ?_), (fun q hq i c j u hi hj => ?_), (fun i c y hi hy => ?_)⟩
    · obtain ⟨i, _, rfl⟩ := List.mem_map.1 hc
      rfl
    · obtain rfl := Option.some.inj hq
      rw [List.getElem?_map] at hi
      by_cases hil : i < len
      · rw [List.getElem?_range hil] at hi
        simp only [Option.map_some, Option.some.injEq] at hi
        subst hi
        have hj0 : j = 0 := by
          rcases j with _ | j
          · rfl
          · simp at hj
        subst hj0
        simp only [List.getElem?_cons_zero, Option.some.injEq] at hj
        subst hj
        rw [Nat.mul_one, Nat.add_zero]
        exact (hx i (by omega)).1
      · rw [List.getElem?_eq_none (by simpa using hil)] at hi
        simp at hi
    · rw [List.getElem?_map] at hi hy
      by_cases hil : i < len
      · rw [List.getElem?_range hil] at hi hy
        simp only [Option.map_some, Option.some.injEq] at hi hy
        subst hi
        subst hy
        exact ⟨V i, rfl, hZ i (by omega)⟩
      · rw [List.getElem?_eq_none (by simpa using hil)] at hi
        simp at hi

end Go.Proofs.YtbnhgmikegdppaaGreat

/- A pile and a row of flags that come in are opened. -/
namespace Go.Proofs.YtbnhgmikegdppaaGreat
open Go.ChangeShapes Go.WideShapes Go.ChangeAt Go.RowKit Go.Proofs.Kit Go.Proofs.Nums

set_option maxRecDepth 100000 in
/-- A slice opened, its elements by a reading of their own. -/
theorem slice_open {H : Type} {enc : TypeId × Value → H} {β : Type} [Inhabited β] {R : World → List Value → β → Prop} {k : Nat} {t e : TypeId} {v : Value} {W : World} {n : Nat} {y : DataW H × List MemPlace} (ht : Tryz.prog.underlying t = some (.slice e)) (hk : Tryz.prog.cellsOf e = k)
    (hm : DataW.trod enc Tryz.prog W 0 (fun _ => true) true n t [v] = some y) (hR : ∀ (cs : List Value) (n : Nat) (y : DataW H × List MemPlace), DataW.trod enc Tryz.prog W 0 (fun _ => true) true n e cs = some y → cs.length = k → ∃ x, R W cs x) : ∃ l, SliceOf R k W v l := by
  rcases Go.Deep.open_slice ht hm with ⟨hcs, _⟩ | ⟨a, len, cap, m, n', D, Pl, hcs, _, hl, hmx, hmm, _, hx⟩
  · obtain rfl : v = .slice none 0 0 := List.head_eq_of_cons_eq hcs
    exact ⟨[], SliceOf.nil W⟩
  · obtain rfl : v = .slice (some a) len cap := List.head_eq_of_cons_eq hcs
    simp only [if_true] at hmm
    subst hmm
    rw [hk] at hx
    have hx2 : ∀ i, i < m → ∃ z : List Value × β, W.cells? 0 (a.add (i * k)) k = some z.1 ∧ z.1.length = k ∧ R W z.1 z.2 := fun i hi => by
      obtain ⟨cs', h1, h2⟩ := hx i hi
      obtain ⟨_, hlen, _⟩ := World.cells?_some h1
      obtain ⟨x, hx⟩ := hR cs' _ _ h2 hlen
      exact ⟨(cs', x), h1, hlen, hx⟩
    obtain ⟨Z, hZ⟩ := Go.Deep.choose_lt hx2
    refine ⟨(List.range len).map fun i => (Z i).2, (List.range len).map (fun i => (Z i).1), some a, m, by simp, by simpa using hl, by unfold maxLen at hmx; omega, (fun h => by cases h), by simp, (fun c hc => ?_), (fun q hq i c j u hi hj => ?_), (fun i c y hi hy => ?_)⟩
    · obtain ⟨i, hi, rfl⟩ := List.mem_map.1 hc
      exact (hZ i (by have := List.mem_range.1 hi; omega)).2.1
    · obtain rfl := Option.some.inj hq
      rw [List.getElem?_map] at hi
      by_cases hil : i < len
      · rw [List.getElem?_range hil] at hi
        simp only [Option.map_some, Option.some.injEq] at hi
        subst hi
        obtain ⟨h1, h2, h3⟩ := hZ i (by omega)
        have h4 := (World.cells?_some h1).2.2 j (by rw [← h2]; exact (List.getElem?_eq_some_iff.1 hj).1)
        rw [Go.Deep.add_add] at h4
        rw [h4]
        exact hj
      · rw [List.getElem?_eq_none (by simp; omega)] at hi
        simp at hi
    · rw [List.getElem?_map] at hi hy
      by_cases hil : i < len
      · rw [List.getElem?_range hil] at hi hy
        simp only [Option.map_some, Option.some.injEq] at hi hy
        subst hi
        subst hy
        exact (hZ i (by omega)).2.2
      · rw [List.getElem?_eq_none (by simp; omega)] at hi
        simp at hi

section
variable {H : Type} {enc : TypeId × Value → H} {W : World}
theorem int_cell {v : Value} {n : Nat} {y : DataW H × List MemPlace} (h : DataW.trod enc Tryz.prog W 0 (fun _ => true) true n 3 [v] = some y) : ∃ l : Int, v = .int .i64 l := by
  obtain ⟨a, ha, _⟩ := DataW.trod_int Tryz.underlying3 h
  exact ⟨a, List.head_eq_of_cons_eq ha⟩
theorem len2 {l : List Value} (h : l.length = 2) : ∃ a b, l = [a, b] := by
  match l, h with
  | [a, b], _ => exact ⟨a, b, rfl⟩
set_option maxRecDepth 100000 in
theorem grp_open {cs : List Value} {n : Nat} {y : DataW H × List MemPlace} (h : DataW.trod enc Tryz.prog W 0 (fun _ => true) true n 56 cs = some y) (hl : cs.length = 2) : ∃ g : Grp, groupR W cs g := by
  obtain ⟨a, b, rfl⟩ := len2 hl
  obtain ⟨y0, y1, m, _, _, h0, h1⟩ := trod_struct2 Tryz.underlying56 h
  have h0 : DataW.trod enc Tryz.prog W 0 (fun _ => true) true m 26 [a] = some y0 := h0
  have h1 : DataW.trod enc Tryz.prog W 0 (fun _ => true) true m 3 [b] = some y1 := h1
  obtain ⟨l, hi⟩ := ints_cell h0
  obtain ⟨z, rfl⟩ := int_cell h1
  exact ⟨⟨l, z⟩, a, rfl, hi⟩
instance : Inhabited Grp := ⟨g0⟩
set_option maxRecDepth 100000 in
/-- An argument of type []api.Group. -/
theorem pile_open {v : Value} {d : DataW H} {p : List MemPlace} {base : Nat} (hv : Value.okWide Tryz.prog W .any base 25 v)
    (h : DataW.Trod enc Tryz.prog W 0 (fun _ => true) true 25 v d p) : ∃ gs, PileAt W v gs := by
  obtain ⟨a, len, cap, rfl⟩ := okWide_slice Tryz.underlying25 hv
  obtain ⟨m, hm⟩ := h
  exact slice_open (R := groupR) (k := 2) Tryz.underlying25 (by kernel_rfl) hm (fun cs n y hc hl => grp_open hc hl)
set_option maxRecDepth 100000 in
/-- An argument of type []bool. -/
theorem bools_open {v : Value} {d : DataW H} {p : List MemPlace} {base : Nat} (hv : Value.okWide Tryz.prog W .any base 67 v)
    (h : DataW.Trod enc Tryz.prog W 0 (fun _ => true) true 67 v d p) : ∃ l, BoolsAt W v l := by
  obtain ⟨a, len, cap, rfl⟩ := okWide_slice Tryz.underlying67 hv
  obtain ⟨m, hm⟩ := h
  obtain ⟨l, css, p, cap, e, h1, h2, h3, h4, h5, h6, h7⟩ := slice_open (R := fun _ c (x : Bool) => c = [.bool x]) (k := 1) Tryz.underlying67 (by kernel_rfl) hm (fun cs n y hc hl => by
    match cs, hl with
    | [v], _ =>
      obtain ⟨b, hb, _⟩ := DataW.trod_bool Tryz.underlying4 hc
      exact ⟨b, hb⟩)
  refine ⟨l, p, cap, by rw [e, List.length_map], by rw [List.length_map]; exact h1, h2, h3, fun q hq i u hi => ?_⟩
  rw [List.getElem?_map] at hi
  obtain ⟨x, hx, rfl⟩ := Option.map_eq_some_iff.1 hi
  have hil := (List.getElem?_eq_some_iff.1 hx).1
  have hc := List.getElem?_eq_getElem (l := css) (i := i) (by omega)
  have e := h7 i _ x hc hx
  have := h6 q hq i _ 0 (.bool x) hc (by rw [e]; rfl)
  rw [Nat.mul_one, Nat.add_zero] at this
  exact this
end

end Go.Proofs.YtbnhgmikegdppaaGreat

/- A contest that comes in is opened. -/
namespace Go.Proofs.YtbnhgmikegdppaaGreat
open Go.ChangeShapes Go.WideShapes Go.ChangeAt Go.RowKit Go.Proofs.Kit Go.Proofs.Nums

theorem array9 {α : Type} {cs : Array α} (h : cs.size = 9) : ∃ c0 c1 c2 c3 c4 c5 c6 c7 c8, cs = #[c0, c1, c2, c3, c4, c5, c6, c7, c8] := by
  obtain ⟨l⟩ := cs
  match l, h with
  | [c0, c1, c2, c3, c4, c5, c6, c7, c8], _ => exact ⟨c0, c1, c2, c3, c4, c5, c6, c7, c8, rfl⟩
theorem list9 {α : Type} {l : List α} (h : l.length = 9) : ∃ c0 c1 c2 c3 c4 c5 c6 c7 c8, l = [c0, c1, c2, c3, c4, c5, c6, c7, c8] := by
  match l, h with
  | [c0, c1, c2, c3, c4, c5, c6, c7, c8], _ => exact ⟨c0, c1, c2, c3, c4, c5, c6, c7, c8, rfl⟩
set_option maxRecDepth 100000 in
/-- An argument of type api.Contest. -/
theorem con_open {H : Type} {enc : TypeId × Value → H} {W : World} {v : Value} {d : DataW H} {p : List MemPlace} {base : Nat} (hv : Value.okWide Tryz.prog W .any base 24 v)
    (h : DataW.Trod enc Tryz.prog W 0 (fun _ => true) true 24 v d p) : ∃ C : ConP, v = conC C := by
  obtain ⟨cs, rfl, hsz⟩ := okWide_struct Tryz.underlying24 hv
  obtain ⟨fuel, hf⟩ := h
  obtain ⟨c0, c1, c2, c3, c4, c5, c6, c7, c8, rfl⟩ := array9 (hsz.trans (by kernel_rfl))
  obtain ⟨xs, n, _, _, _, hlen, hfld⟩ := DataW.trod_struct Tryz.underlying24 hf
  obtain ⟨y0, y1, y2, y3, y4, y5, y6, y7, y8, rfl⟩ := list9 (show xs.length = 9 from hlen)
  have g1 : DataW.trod enc Tryz.prog W 0 (fun _ => true) true n 22 [c1] = some y1 := hfld 1 _ rfl
  have g2 : DataW.trod enc Tryz.prog W 0 (fun _ => true) true n 3 [c2] = some y2 := hfld 2 _ rfl
  have g3 : DataW.trod enc Tryz.prog W 0 (fun _ => true) true n 3 [c3] = some y3 := hfld 3 _ rfl
  have g4 : DataW.trod enc Tryz.prog W 0 (fun _ => true) true n 3 [c4] = some y4 := hfld 4 _ rfl
  have g5 : DataW.trod enc Tryz.prog W 0 (fun _ => true) true n 3 [c5] = some y5 := hfld 5 _ rfl
  have g6 : DataW.trod enc Tryz.prog W 0 (fun _ => true) true n 3 [c6] = some y6 := hfld 6 _ rfl
  have g7 : DataW.trod enc Tryz.prog W 0 (fun _ => true) true n 3 [c7] = some y7 := hfld 7 _ rfl
  have g8 : DataW.trod enc Tryz.prog W 0 (fun _ => true) true n 3 [c8] = some y8 := hfld 8 _ rfl
  obtain ⟨a, len, cap, hs⟩ := Joins.slice_form Tryz.underlying22 g1
  obtain rfl : c1 = .slice a len cap := List.head_eq_of_cons_eq hs
  obtain ⟨i2, rfl⟩ := int_cell g2
  obtain ⟨i3, rfl⟩ := int_cell g3
  obtain ⟨i4, rfl⟩ := int_cell g4
  obtain ⟨i5, rfl⟩ := int_cell g5
  obtain ⟨i6, rfl⟩ := int_cell g6
  obtain ⟨i7, rfl⟩ := int_cell g7
  obtain ⟨i8, rfl⟩ := int_cell g8
  exact ⟨⟨c0, a, len, cap, i2, i3, i4, i5, i6, i7, i8⟩, rfl⟩

end Go.Proofs.YtbnhgmikegdppaaGreat
