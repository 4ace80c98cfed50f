/- Contracts and plain facts, part 15: J3, TO. No condition beyond those that each theorem states. -/
import Derived.Test.YtbnhgmikegdppaaQN
import Derived.Deep.Slices
import Derived.Lib.SmallJoins
/- The sanity check Awake: the walk. -/
namespace Go.Proofs.Ytbnhgmikegdppaa
open Go.RowKit Go.Proofs.Kit Go.Proofs.Nums

theorem row_lit (w : World) (l : List Int) (hl : l.length ≤ 1000) : IntsAt (w.alloc (.cells (l.map (Value.int .i64)).toArray 3)) (.slice (some ⟨w.heap.size, 0, none⟩) l.length l.length) l := by
  have h := World.ownsRow_lit (base := w.heap.size) (e := 3) (size := 1) w (l.map (Value.int .i64)).toArray l.length (Nat.le_refl _) (by unfold maxLen; omega) (by simp)
  have := RowAt.owned h
  simpa [IntsAt] using this
theorem grid_of {W : World} {v : Value} {us : List Value} {L : List (List Int)} (hr : RowAt W v us) (hl : us.length = L.length) (h : ∀ (i : Nat) u r, us[i]? = some u → L[i]? = some r → IntsAt W u r) : GridAt W v L := by
  obtain ⟨p, cap, e, h1, h2, h3, h4⟩ := hr
  refine ⟨us.map fun u => [u], p, cap, by rw [e, hl], by omega, h2, h3, by rw [List.length_map, hl], fun c hc => ?_, fun q hq i c j u hi hj => ?_, fun i c r hi hr => ?_⟩
  · obtain ⟨u, _, rfl⟩ := List.mem_map.1 hc
    rfl
  · rw [List.getElem?_map] at hi
    cases hu : us[i]? with
    | none => rw [hu] at hi; simp at hi
    | some u' =>
      rw [hu] at hi
      simp only [Option.map_some, Option.some.injEq] at hi
      subst hi
      have hj0 : j = 0 := by
        cases j with
        | zero => rfl
        | succ j => simp at hj
      subst hj0
      simp only [List.getElem?_cons_zero, Option.some.injEq] at hj
      subst hj
      rw [Nat.mul_one, Nat.add_zero]
      exact h4 q hq i _ hu
  · rw [List.getElem?_map] at hi
    cases hu : us[i]? with
    | none => rw [hu] at hi; simp at hi
    | some u' =>
      rw [hu] at hi
      simp only [Option.map_some, Option.some.injEq] at hi
      exact ⟨u', hi.symm, h i u' r hu hr⟩
theorem below_al {w w' : World} (h : Below w.heap.size w w') (o : Obj) : Below w.heap.size w (w'.alloc o) := h.alloc h.size o

theorem aw_grid (w : World) : GridAt ((((((w.alloc (.cells #[.int .i64 0, .int .i64 1] 3)).alloc (.cells #[.int .i64 0, .int .i64 1] 3)).alloc (.cells #[.int .i64 1] 3)).alloc (.cells #[.int .i64 1] 3)).alloc (.cells #[.int .i64 2, .int .i64 1] 3)).alloc (.cells #[.slice (some ⟨w.heap.size, 0, none⟩) 2 2, .slice (some ⟨w.heap.size + 1, 0, none⟩) 2 2, .slice (some ⟨w.heap.size + 2, 0, none⟩) 1 1, .slice (some ⟨w.heap.size + 3, 0, none⟩) 1 1, .slice (some ⟨w.heap.size + 4, 0, none⟩) 2 2] 28)) (.slice (some ⟨w.heap.size + 5, 0, none⟩) 5 5) awB := by
  have r0 := row_lit w [0, 1] (by decide)
  obtain ⟨w1, e1⟩ : ∃ w1, w.alloc (.cells ([(0 : Int), 1].map (Value.int .i64)).toArray 3) = w1 := ⟨_, rfl⟩
  have s1 : w1.heap.size = w.heap.size + 1 := by rw [← e1]; simp
  have r1 := row_lit w1 [0, 1] (by decide)
  obtain ⟨w2, e2⟩ : ∃ w2, w1.alloc (.cells ([(0 : Int), 1].map (Value.int .i64)).toArray 3) = w2 := ⟨_, rfl⟩
  have s2 : w2.heap.size = w.heap.size + 2 := by rw [← e2]; simp [s1]
  have r2 := row_lit w2 [1] (by decide)
  obtain ⟨w3, e3⟩ : ∃ w3, w2.alloc (.cells ([(1 : Int)].map (Value.int .i64)).toArray 3) = w3 := ⟨_, rfl⟩
  have s3 : w3.heap.size = w.heap.size + 3 := by rw [← e3]; simp [s2]
  have r3 := row_lit w3 [1] (by decide)
  obtain ⟨w4, e4⟩ : ∃ w4, w3.alloc (.cells ([(1 : Int)].map (Value.int .i64)).toArray 3) = w4 := ⟨_, rfl⟩
  have s4 : w4.heap.size = w.heap.size + 4 := by rw [← e4]; simp [s3]
  have r4 := row_lit w4 [2, 1] (by decide)
  obtain ⟨w5, e5⟩ : ∃ w5, w4.alloc (.cells ([(2 : Int), 1].map (Value.int .i64)).toArray 3) = w5 := ⟨_, rfl⟩
  have s5 : w5.heap.size = w.heap.size + 5 := by rw [← e5]; simp [s4]
  rw [e1] at r0
  rw [e2, s1] at r1
  rw [e3, s2] at r2
  rw [e4, s3] at r3
  rw [e5, s4] at r4
  have b12 : Below w1.heap.size w1 w2 := by rw [← e2]; exact below_al (Below.refl _ _) _
  have b23 : Below w2.heap.size w2 w3 := by rw [← e3]; exact below_al (Below.refl _ _) _
  have b34 : Below w3.heap.size w3 w4 := by rw [← e4]; exact below_al (Below.refl _ _) _
  have b45 : Below w4.heap.size w4 w5 := by rw [← e5]; exact below_al (Below.refl _ _) _
  show GridAt (((((((w.alloc (.cells ([(0 : Int), 1].map (Value.int .i64)).toArray 3)).alloc (.cells ([(0 : Int), 1].map (Value.int .i64)).toArray 3)).alloc (.cells ([(1 : Int)].map (Value.int .i64)).toArray 3)).alloc (.cells ([(1 : Int)].map (Value.int .i64)).toArray 3)).alloc (.cells ([(2 : Int), 1].map (Value.int .i64)).toArray 3)).alloc _)) _ awB
  rw [e1, e2, e3, e4, e5]
  have hrow := RowAt.owned (World.ownsRow_lit (base := w5.heap.size) (e := 28) (size := 1) w5 #[.slice (some ⟨w.heap.size, 0, none⟩) 2 2, .slice (some ⟨w.heap.size + 1, 0, none⟩) 2 2, .slice (some ⟨w.heap.size + 2, 0, none⟩) 1 1, .slice (some ⟨w.heap.size + 3, 0, none⟩) 1 1, .slice (some ⟨w.heap.size + 4, 0, none⟩) 2 2] 5 (Nat.le_refl _) (by unfold maxLen; omega) rfl)
  rw [s5] at hrow
  have b56 : Below w5.heap.size w5 (w5.alloc (.cells #[.slice (some ⟨w.heap.size, 0, none⟩) 2 2, .slice (some ⟨w.heap.size + 1, 0, none⟩) 2 2, .slice (some ⟨w.heap.size + 2, 0, none⟩) 1 1, .slice (some ⟨w.heap.size + 3, 0, none⟩) 1 1, .slice (some ⟨w.heap.size + 4, 0, none⟩) 2 2] 28)) := below_al (Below.refl _ _) _
  have q0 := ((((r0.keep b12).keep b23).keep b34).keep b45).keep b56
  have q1 := (((r1.keep b23).keep b34).keep b45).keep b56
  have q2 := ((r2.keep b34).keep b45).keep b56
  have q3 := (r3.keep b45).keep b56
  have q4 := r4.keep b56
  refine grid_of hrow rfl fun i u r hu hr => ?_
  match i with
  | 0 => simp [awB] at hu hr; subst hu; subst hr; exact q0
  | 1 => simp [awB] at hu hr; subst hu; subst hr; exact q1
  | 2 => simp [awB] at hu hr; subst hu; subst hr; exact q2
  | 3 => simp [awB] at hu hr; subst hu; subst hr; exact q3
  | 4 => simp [awB] at hu hr; subst hu; subst hr; exact q4
  | n + 5 => simp [awB] at hr

theorem okA {p : Option Addr} {n c : Nat} {ties : Int} {gs : List Grp} {lots : List Int} (h1 : 1 ≤ n) (h7 : n ≤ 7) (t1 : 1 ≤ ties) (t3 : ties ≤ 3) (hg : PileP n gs) (hl : Lots n lots) : OkC (conM p n c ties) gs lots :=
  ⟨rfl, h1, h7, rfl, rfl, t1, t3, hg, hl⟩

set_option maxRecDepth 100000 in
set_option maxHeartbeats 8000000 in
theorem awake26 (w : World) : Calls Try.prog 12 #[] w fun e w' => e = .returned (.bool true) ∧ Below w.heap.size w w' := by
  have MK : Hid (∀ wq v, GridAt wq v awB → Calls Try.prog 36 #[.int .i64 3, v] wq fun e w' => ∃ v', e = .returned (.tuple #[v', .int .i64 0]) ∧ PileAt w' v' awG ∧ Below wq.heap.size wq w') := Lib.hid (fun wq v h => rmake_c (n := 3) h (by omega) (by omega) awB_bal (by decide))
  have CO : Hid (∀ wq, Calls Try.prog 19 #[.int .i64 0, .int .i64 3, .int .i64 0, .int .i64 0, .int .i64 0] wq fun e w' => ∃ p c, e = .returned (conC (conM p 3 c 1)) ∧ Below wq.heap.size wq w') := Lib.hid (fun wq => contest_c 3 (by omega) 0 wq)
  have AG := Lib.hid (aw_grid w)
  have CT : Hid (∀ wq p c vg vl, PileAt wq vg awG → IntsAt wq vl [0, 1, 2] → Calls Try.prog 18 #[conC (conM p 3 c 1), vg, vl] wq fun e w' => ∃ pr cr pw cw, e = .returned (.tuple #[.agg #[.int .i64 1, .int .i64 1, .int .i64 0, .int .i64 3, .slice pr 2 cr, .slice pw 1 cw], .int .i64 0]) ∧ IntsAt w' (.slice pw 1 cw) [1] ∧ Below wq.heap.size wq w') := Lib.hid (fun wq p c vg vl hg hl => by
    refine (count_c (C := conM p 3 c 1) hg hl (okA (by omega) (by omega) (by omega) (by omega) awG_pile aw_lots)).mono ?_
    rintro e w' ⟨vr, vw, x, rfl, h1, h2, h3, h4⟩
    have h1 := h1.now
    have h2 := h2.now
    have hc := awG_count
    obtain ⟨r, hr, hx⟩ := h3.out
    have e1 : countS false (brkS (conM p 3 c 1).ties [0, 1, 2]) awG (conM p 3 c 1).n (List.replicate (conM p 3 c 1).n true) [] = countS false (brkS 1 [0, 1, 2]) awG 3 (List.replicate 3 true) [] := rfl
    rw [e1] at h1 hr
    obtain ⟨R, hR⟩ : ∃ R, countS false (brkS 1 [0, 1, 2]) awG 3 (List.replicate 3 true) [] = R := ⟨_, rfl⟩
    rw [hR] at h1 hr hc
    have hl2 : R.length = 2 := by have := congrArg List.length hc; simpa using this
    obtain ⟨pr, cr, e2, _, _⟩ := h1.shape
    rw [hl2] at e2
    subst e2
    have hx1 : x = 1 := by
      match R, hl2, hc, hr with
      | [a, b], _, hc, hr =>
        simp at hc hr
        rw [← hr, hc.2] at hx
        simpa using hx.symm
    subst hx1
    obtain ⟨pw, cw, rfl⟩ := h2.shape
    exact ⟨pr, cr, pw, cw, rfl, h2, h4⟩)
  have OD : Hid (∀ wq p c vg vl, PileAt wq vg awG → IntsAt wq vl [0, 1, 2] → Calls Try.prog 29 #[conC (conM p 3 c 1), vg, vl] wq fun e w' => ∃ v', e = .returned (.tuple #[v', .int .i64 0]) ∧ IntsAt w' v' [2, 0, 1] ∧ Below wq.heap.size wq w') := Lib.hid (fun wq p c vg vl hg hl => by
    refine (order_c (C := conM p 3 c 1) hg hl (okA (by omega) (by omega) (by omega) (by omega) awG_pile aw_lots)).mono ?_
    rintro e w' ⟨v', rfl, h1, _, h3⟩
    have e1 : orderS (brkS (conM p 3 c 1).ties [0, 1, 2]) awG (conM p 3 c 1).n (List.replicate (conM p 3 c 1).n true) [] = orderS (brkS 1 [0, 1, 2]) awG 3 (List.replicate 3 true) [] := rfl
    rw [e1, awG_order] at h1
    exact ⟨v', rfl, h1, h3⟩)
  have PO : Hid (∀ wq vg, PileAt wq vg awG → Calls Try.prog 14 #[.int .i64 3, vg] wq fun e w' => ∃ v', e = .returned v' ∧ IntsAt w' v' [1] ∧ Below wq.heap.size wq w') := Lib.hid (fun wq vg hg => by
    refine (possible_c (n := 3) hg (by omega) (by omega) awG_pile).mono ?_
    rintro e w' ⟨v', rfl, h1, _, h3⟩
    rw [aw_poss] at h1
    exact ⟨v', rfl, h1, h3⟩)
  have EQ : Hid (∀ wq va vb (l : List Int), IntsAt wq va l → IntsAt wq vb l → Calls Try.prog 13 #[va, vb] wq fun e w' => e = .returned (.bool true) ∧ Below wq.heap.size wq w') := Lib.hid (fun wq va vb l h1 h2 => by
    have := eq_c h1 h2
    rwa [decide_eq_true rfl] at this)
  unfold conC conM conV nmV at CO CT OD
  simp only at CO CT OD
  go_enter Try.func12, Try.ntmps12
  go_wp2_with (first
    | (go_at_call 36; ((with_reducible refine (MK.out _ _ AG.out).mono ?_); rintro _ w1 ⟨v1, rfl, h1, hb1⟩))
    | (go_at_call 19; ((with_reducible refine (CO.out _).mono ?_); rintro _ w2 ⟨p, c, rfl, hb2⟩; have K3 := Blk.new w2 #[.string ⟨#[99]⟩, .slice p 3 c, .int .i64 1, .int .i64 1, .int .i64 0, .int .i64 0, .int .i64 1, .int .i64 0, .int .i64 0] 40; have hb3 : Below w1.heap.size w1 (w2.alloc (.cells #[.string ⟨#[99]⟩, .slice p 3 c, .int .i64 1, .int .i64 1, .int .i64 0, .int .i64 0, .int .i64 1, .int .i64 0, .int .i64 0] 40)) := below_al hb2 _; have H3 := Lib.hid (h1.keep hb3))))
  obtain ⟨W3, hW3⟩ : ∃ W3, w2.alloc (.cells #[.string ⟨#[99]⟩, .slice p 3 c, .int .i64 1, .int .i64 1, .int .i64 0, .int .i64 0, .int .i64 1, .int .i64 0, .int .i64 0] 40) = W3 := ⟨_, rfl⟩
  have s3 : W3.heap.size = w2.heap.size + 1 := by rw [← hW3]; simp
  rw [hW3] at K3 hb3 H3 ⊢
  have r4 : IntsAt (W3.alloc (.cells #[.int .i64 0, .int .i64 1, .int .i64 2] 3)) (.slice (some ⟨W3.heap.size, 0, none⟩) 3 3) [0, 1, 2] := row_lit W3 [0, 1, 2] (by decide)
  rw [s3] at r4
  have H4 := H3.out.keep (below_al (Below.refl _ _) (.cells #[.int .i64 0, .int .i64 1, .int .i64 2] 3))
  have b4 : Below W3.heap.size W3 (W3.alloc (.cells #[.int .i64 0, .int .i64 1, .int .i64 2] 3)) := below_al (Below.refl _ _) _
  have HS3 := Lib.hid s3
  have HW3 := Lib.hid hW3
  clear s3 hW3
  have K3 := Lib.hid K3
  go_wp2_with (first
    | (go_at_call 18; ((with_reducible refine (CT.out _ _ _ _ _ H4 r4).mono ?_); rintro _ w5 ⟨pr, cr, pw, cw, rfl, h5, hb5⟩; have b5 := bel2' b4 hb5; have K6 := Blk.new w5 #[.int .i64 1, .int .i64 1, .int .i64 0, .int .i64 3, .slice pr 2 cr, .slice pw 1 cw] 34; have b6 : Below W3.heap.size W3 (w5.alloc (.cells #[.int .i64 1, .int .i64 1, .int .i64 0, .int .i64 3, .slice pr 2 cr, .slice pw 1 cw] 34)) := below_al b5 _; have H6 := h5.keep (below_al (Below.refl w5.heap.size w5) (.cells #[.int .i64 1, .int .i64 1, .int .i64 0, .int .i64 3, .slice pr 2 cr, .slice pw 1 cw] 34)); obtain ⟨x0, x1, x2, x3, x4, x5, x6, x7, x8⟩ := nine_cells (K3.out.keep b6); have H7 := Lib.hid (H3.out.keep b6); have H6 := Lib.hid H6; have K6 := Lib.hid K6)))
  obtain ⟨W6, hW6⟩ : ∃ W6, w5.alloc (.cells #[.int .i64 1, .int .i64 1, .int .i64 0, .int .i64 3, .slice pr 2 cr, .slice pw 1 cw] 34) = W6 := ⟨_, rfl⟩
  have s6 : W6.heap.size = w5.heap.size + 1 := by rw [← hW6]; simp
  rw [hW6] at K6 b6 H6 H7 x0 x1 x2 x3 x4 x5 x6 x7 x8 ⊢
  have r7 : IntsAt (W6.alloc (.cells #[.int .i64 0, .int .i64 1, .int .i64 2] 3)) (.slice (some ⟨W6.heap.size, 0, none⟩) 3 3) [0, 1, 2] := row_lit W6 [0, 1, 2] (by decide)
  rw [s6] at r7
  have b7 : Below W6.heap.size W6 (W6.alloc (.cells #[.int .i64 0, .int .i64 1, .int .i64 2] 3)) := below_al (Below.refl _ _) _
  have H8 := H7.out.keep b7
  have HW6 := Lib.hid hW6
  have HS6 := Lib.hid s6
  clear hW6 s6
  go_wp2_with (first
    | (go_at_call 29; ((with_reducible refine (OD.out _ _ _ _ _ H8 r7).mono ?_); rintro _ w8 ⟨v8, rfl, h8, hb8⟩; have b8 := bel2' b7 hb8; have hq8 := K6.out.keep b8; have x4' : w8.cell? ⟨w5.heap.size, 4, none⟩ = some (.slice pr 2 cr) := hq8.2.1 4; have x5' : w8.cell? ⟨w5.heap.size, 5, none⟩ = some (.slice pw 1 cw) := hq8.2.1 5; have r9 : IntsAt (w8.alloc (.cells #[.int .i64 1] 3)) (.slice (some ⟨w8.heap.size, 0, none⟩) 1 1) [1] := row_lit w8 [1] (by decide); have b9 : Below w8.heap.size w8 (w8.alloc (.cells #[.int .i64 1] 3)) := below_al (Below.refl _ _) _; have h9 := (H6.out.keep b8).keep b9; have h89 := Lib.hid (h8.keep b9); have H79 := Lib.hid ((H7.out.keep b8).keep b9)))
    | (go_at_call 13; ((with_reducible refine (EQ.out _ _ _ [1] h9 r9).mono ?_); rintro _ w10 ⟨rfl, hb10⟩; clear h9; have r11 : IntsAt (w10.alloc (.cells #[.int .i64 2, .int .i64 0, .int .i64 1] 3)) (.slice (some ⟨w10.heap.size, 0, none⟩) 3 3) [2, 0, 1] := row_lit w10 [2, 0, 1] (by decide); have b11 : Below w10.heap.size w10 (w10.alloc (.cells #[.int .i64 2, .int .i64 0, .int .i64 1] 3)) := below_al (Below.refl _ _) _; have h11 := (h89.out.keep hb10).keep b11; have H711 := Lib.hid ((H79.out.keep hb10).keep b11)))
    | (go_at_call 13; ((with_reducible refine (EQ.out _ _ _ [2, 0, 1] h11 r11).mono ?_); rintro _ w12 ⟨rfl, hb12⟩; have H712 := H711.out.keep hb12))
    | (go_at_call 14; ((with_reducible refine (PO.out _ _ H712).mono ?_); rintro _ w13 ⟨v13, rfl, h13, hb13⟩; have r14 : IntsAt (w13.alloc (.cells #[.int .i64 1] 3)) (.slice (some ⟨w13.heap.size, 0, none⟩) 1 1) [1] := row_lit w13 [1] (by decide); have b14 : Below w13.heap.size w13 (w13.alloc (.cells #[.int .i64 1] 3)) := below_al (Below.refl _ _) _; have h14 := h13.keep b14))
    | (go_at_call 13; ((with_reducible refine (EQ.out _ _ _ [1] h14 r14).mono ?_); rintro _ w15 ⟨rfl, hb15⟩)))
  go_ret
  have bA := below_al (below_al (below_al (below_al (below_al (below_al (Below.refl w.heap.size w) (.cells #[.int .i64 0, .int .i64 1] 3)) (.cells #[.int .i64 0, .int .i64 1] 3)) (.cells #[.int .i64 1] 3)) (.cells #[.int .i64 1] 3)) (.cells #[.int .i64 2, .int .i64 1] 3)) (.cells #[.slice (some ⟨w.heap.size, 0, none⟩) 2 2, .slice (some ⟨w.heap.size + 1, 0, none⟩) 2 2, .slice (some ⟨w.heap.size + 2, 0, none⟩) 1 1, .slice (some ⟨w.heap.size + 3, 0, none⟩) 1 1, .slice (some ⟨w.heap.size + 4, 0, none⟩) 2 2] 28)
  exact ⟨rfl, bel2' (bel2' (bel2' (bel2' (bel2' (bel2' (bel2' (bel2' (bel2' (bel2' (bel2' bA hb1) hb3) b6) b8) b9) hb10) b11) hb12) hb13) b14) hb15⟩

end Go.Proofs.Ytbnhgmikegdppaa

/- A row of integers and a list of such rows that come in are opened. -/
namespace Go.Proofs.Ytbnhgmikegdppaa
open Go.ChangeShapes Go.WideShapes Go.ChangeAt Go.RowKit Go.Proofs.Kit Go.Proofs.Nums

set_option maxRecDepth 100000 in
theorem ints_cell {H : Type} {enc : TypeId × Value → H} {v : Value} {W : World} {n : Nat} {y : DataW H × List MemPlace} (hm : DataW.trod enc Try.prog W 0 (fun _ => true) true n 28 [v] = some y) : ∃ l, IntsAt W v l := by
  obtain ⟨a, len, cap, hs⟩ := Joins.slice_form Try.underlying28 hm
  obtain rfl : v = .slice a len cap := List.head_eq_of_cons_eq hs
  rcases open_ints Try.underlying28 Try.underlying3 (by kernel_rfl) hm with ⟨hcs, _⟩ | ⟨x, l, c, zs, hcs, _, hl, hmx, hz, _, hcell, hwz⟩
  · obtain ⟨rfl, rfl, rfl⟩ : a = none ∧ len = 0 ∧ cap = 0 := by
      have : Value.slice a len cap = .slice none 0 0 := List.head_eq_of_cons_eq hcs
      simpa using this
    exact ⟨[], RowAt.nil W⟩
  · obtain ⟨rfl, rfl, rfl⟩ : a = some x ∧ len = l ∧ cap = c := by
      have : Value.slice a len cap = .slice (some x) l c := List.head_eq_of_cons_eq hcs
      simpa using this
    have hz' : zs.length = cap := by simpa using hz
    refine ⟨zs.take len, some x, cap, ?_, ?_, ?_, ?_, ?_⟩
    · simp; omega
    · simp; omega
    · unfold maxLen at hmx; omega
    · simp
    · rintro q hq i u hu
      simp only [Option.some.injEq] at hq
      subst hq
      rw [List.getElem?_map] at hu
      by_cases hi : i < (zs.take len).length
      · rw [List.getElem?_eq_getElem hi] at hu
        simp only [Option.map_some, Option.some.injEq] at hu
        have hil : i < zs.length := by rw [List.length_take] at hi; omega
        rw [hcell i hil, ← hu]
        have e : zs.getD i 0 = zs[i] := by rw [List.getD_eq_getElem?_getD, List.getElem?_eq_getElem hil]; rfl
        rw [e, List.getElem_take]
      · rw [List.getElem?_eq_none (by omega)] at hu; simp at hu
set_option maxRecDepth 100000 in
/-- An argument of type []int. -/
theorem ints_open {H : Type} {enc : TypeId × Value → H} {v : Value} {d : DataW H} {p : List MemPlace} {base : Nat} {W : World} (hv : Value.okWide Try.prog W .any base 28 v)
    (h : DataW.Trod enc Try.prog W 0 (fun _ => true) true 28 v d p) : ∃ l, IntsAt W v l := by
  obtain ⟨a, len, cap, rfl⟩ := okWide_slice Try.underlying28 hv
  obtain ⟨m, hm⟩ := h
  exact ints_cell hm
set_option maxRecDepth 100000 in
/-- An argument of type [][]int. -/
theorem grid_open {H : Type} {enc : TypeId × Value → H} {v : Value} {d : DataW H} {p : List MemPlace} {base : Nat} {W : World} (hv : Value.okWide Try.prog W .any base 23 v)
    (h : DataW.Trod enc Try.prog W 0 (fun _ => true) true 23 v d p) : ∃ L, GridAt W v L := by
  obtain ⟨a, len, cap, rfl⟩ := okWide_slice Try.underlying23 hv
  obtain ⟨m, hm⟩ := h
  rcases Go.Deep.open_slice1 Try.underlying23 (by kernel_rfl) hm with ⟨hcs, _⟩ | ⟨x, l, c, mm, n, V, D, Pl, hcs, _, hl, hmx, hmm, _, hx⟩
  · obtain ⟨rfl, rfl, rfl⟩ : a = none ∧ len = 0 ∧ cap = 0 := by
      have : Value.slice a len cap = .slice none 0 0 := List.head_eq_of_cons_eq hcs
      simpa using this
    exact ⟨[], SliceOf.nil W⟩
  · obtain ⟨rfl, rfl, rfl⟩ : a = some x ∧ len = l ∧ cap = c := by
      have : Value.slice a len cap = .slice (some x) l c := List.head_eq_of_cons_eq hcs
      simpa using this
    simp only [if_true] at hmm
    subst hmm
    obtain ⟨Z, hZ⟩ := Go.Deep.choose_lt (fun i hi => ints_cell (hx i hi).2)
    refine ⟨(List.range len).map Z, (List.range len).map (fun i => [V i]), some x, mm, by simp, by simpa using hl, by unfold maxLen at hmx; omega, (fun h => by cases h), by simp, (fun c hc => ?_), (fun q hq i c j u hi hj => ?_), (fun i c y hi hy => ?_)⟩
    · obtain ⟨i, _, rfl⟩ := List.mem_map.1 hc
      rfl
    · obtain rfl := Option.some.inj hq
      rw [List.getElem?_map] at hi
      by_cases hil : i < len
      · rw [List.getElem?_range hil] at hi
        simp only [Option.map_some, Option.some.injEq] at hi
        subst hi
        have hj0 : j = 0 := by
          rcases j with _ | j
          · rfl
          · simp at hj
        subst hj0
        simp only [List.getElem?_cons_zero, Option.some.injEq] at hj
        subst hj
        rw [Nat.mul_one, Nat.add_zero]
        exact (hx i (by omega)).1
      · rw [List.getElem?_eq_none (by simpa using hil)] at hi
        simp at hi
    · rw [List.getElem?_map] at hi hy
      by_cases hil : i < len
      · rw [List.getElem?_range hil] at hi hy
        simp only [Option.map_some, Option.some.injEq] at hi hy
        subst hi
        subst hy
        exact ⟨V i, rfl, hZ i (by omega)⟩
      · rw [List.getElem?_eq_none (by simpa using hil)] at hi
        simp at hi

end Go.Proofs.Ytbnhgmikegdppaa
