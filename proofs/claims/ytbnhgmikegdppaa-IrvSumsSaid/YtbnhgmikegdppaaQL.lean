/- Contracts and plain facts, part 12: Ik, Ve, Il, Iq, Is, It, Iu. No condition beyond those that each theorem states. -/
import Derived.Test.YtbnhgmikegdppaaQK
import Derived.BigQuiet
/- (*count).round: the walk. -/
namespace Go.Proofs.Ytbnhgmikegdppaa
open Go.RowKit Go.Proofs.Kit Go.Proofs.Nums

theorem cell14 {b B o : Nat} {w : World} {v : Value} (h : w.cell? ⟨B, o, none⟩ = some v) (hne : B ≠ b) : ∀ (y0 y1 y2 y3 y4 y5 y6 y7 y8 y9 y10 y11 y12 y13 : Value), ((((((((((((((w.setCell ⟨b, 0, none⟩ y0).setCell ⟨b, 1, none⟩ y1).setCell ⟨b, 2, none⟩ y2).setCell ⟨b, 3, none⟩ y3).setCell ⟨b, 4, none⟩ y4).setCell ⟨b, 5, none⟩ y5).setCell ⟨b, 6, none⟩ y6).setCell ⟨b, 7, none⟩ y7).setCell ⟨b, 8, none⟩ y8).setCell ⟨b, 9, none⟩ y9).setCell ⟨b, 10, none⟩ y10).setCell ⟨b, 11, none⟩ y11).setCell ⟨b, 12, none⟩ y12).setCell ⟨b, 13, none⟩ y13).cell? ⟨B, o, none⟩ = some v := by
  have one : ∀ {w : World} (j : Nat) (u : Value), w.cell? ⟨B, o, none⟩ = some v → (w.setCell ⟨b, j, none⟩ u).cell? ⟨B, o, none⟩ = some v := fun {w} j u h => (World.cell?_of_block (a := ⟨B, o, none⟩) (Below.heap_setCell _ ⟨b, j, none⟩ _ _ hne)).trans h
  intro y0 y1 y2 y3 y4 y5 y6 y7 y8 y9 y10 y11 y12 y13
  exact one _ _ (one _ _ (one _ _ (one _ _ (one _ _ (one _ _ (one _ _ (one _ _ (one _ _ (one _ _ (one _ _ (one _ _ (one _ _ (one _ _ h)))))))))))))
/-- Of a number that is not negative: what it hands back, made by the call. -/
theorem of_z (x : Int) (h0 : 0 ≤ x) (h1 : x ≤ 1000000) (w : World) :
    Calls Try.prog 79 #[.int .i64 x] w fun e w' => ∃ p l k p' l' k', e = .returned (.agg #[.bool false, .slice p l k, .slice p' l' k']) ∧ Made w.heap.size (fun w => ratR w [.bool false, .slice p l k, .slice p' l' k'] (wholeQ x)) w' ∧ Below w.heap.size w w' := by
  obtain ⟨n, rfl⟩ : ∃ n : Nat, x = n := ⟨x.toNat, by omega⟩
  exact of_m n (by omega) w

/-- The append in round: wq the world of the loop, w5 the one behind the call of ratio.Of. -/
theorem rnd_arm {wq w5 : World} {b E : Nat} {vk : Value} {cs : Array Value} {l : List Q} {css : List (List Value)} {c : List Value} {q : Q}
    (hL : Lst2 ratR E (fun _ => False) 52 3 vk wq l css) (hE : E ≤ wq.heap.size) (hbE : b < E) (hK : Blk b cs wq) (hb5 : Below wq.drew.heap.size wq.drew w5) (m5 : Made wq.drew.heap.size (fun w => ratR w c q) w5) :
    Below wq.heap.size wq w5 ∧ Hid (∀ ob : Obj, Lst2 ratR E (fun _ => False) 52 3 vk (w5.alloc ob) l css) ∧
    Hid (∀ ob : Obj, On (fun b => E ≤ b ∧ b < (w5.alloc ob).heap.size ∧ vk.ownBlock ≠ some b ∧ ¬ False) (fun w => ratR w c q) (w5.alloc ob)) ∧
    Hid (∀ ob : Obj, E ≤ (w5.alloc ob).heap.size) ∧ Hid (∀ (ob : Obj) (b : Nat), False → b < (w5.alloc ob).heap.size) ∧
    Hid (∀ (ob : Obj) (w6 : World), Below E (w5.alloc ob) w6 → Blk b cs w6) ∧ Hid (∀ ob : Obj, Below wq.heap.size wq (w5.alloc ob)) := by
  have hs5 := hb5.size
  have hd : Below wq.heap.size wq w5 := (Below.refl _ wq).drew.trans hb5
  have hda : ∀ ob : Obj, Below wq.heap.size wq (w5.alloc ob) := fun ob => hd.alloc hs5 ob
  have hm : Made wq.heap.size (fun w => ratR w c q) w5 := m5
  refine ⟨hd, Lib.hid fun ob => hL.keep (hda ob), Lib.hid fun ob => ?_, Lib.hid fun ob => Nat.le_trans hE (hda ob).size, Lib.hid fun ob b e => e.elim, Lib.hid fun ob w6 h6 => ?_, Lib.hid hda⟩
  · exact Lst2.fresh (w1 := w5.alloc ob) hL (hm.keep ((Below.refl _ _).alloc (Nat.le_refl _) _)) hE (fun b e => e.elim)
  · exact (hK.keep (hda ob)).off (h6.block b hbE) h6.size

set_option maxRecDepth 100000 in
set_option maxHeartbeats 16000000 in
theorem round_c {w : World} {B g : Nat} {C : ConP} {vg vl ve vv : Value} {gs : List Grp} {rem : List Bool} {ex : Int}
    (hC : CntAt w B g C vg vl ve rem) (hv : IntsAt w vv (votesS gs rem)) (hvr : ∀ x ∈ votesS gs rem, 0 ≤ x ∧ x ≤ 100000) (he0 : 0 ≤ restS gs rem) (he1 : restS gs rem ≤ 100000) (hex : ex = restS gs rem) (h7 : C.n ≤ 7) :
    Calls Try.prog 48 #[.pointer (some ⟨B, 0, none⟩), vv, .int .i64 ex] w fun e w' => ∃ a b q1 q2 e1 e2 s1 s2, e = .returned (.tuple #[.agg (rndA a b q1 q2 e1 e2 s1 s2 (.slice none 0 0) (.slice none 0 0) (.slice none 0 0)), .int .i64 (quotaS gs rem)]) ∧
      Made w.heap.size (fun w => RndH w a b q1 q2 e1 e2 s1 s2 (mkR gs rem [] [] [])) w' ∧ (SlV a ∧ SlV b ∧ SlV q1 ∧ SlV q2 ∧ SlV e1 ∧ SlV e2 ∧ SlV s1 ∧ SlV s2) ∧ Below w.heap.size w w' := by
  have hrl := hC.len
  have hvl : (votesS gs rem).length = C.n := by rw [votes_len, hrl]
  have hkl : (keepS rem).length = C.n := by rw [keep_len, hrl]
  have hBw := hC.lt.1
  have hFl := hC.flags
  obtain ⟨_, _, d11, _, _⟩ := hC.cells
  obtain ⟨pv, cv, rfl⟩ := hv.shape
  obtain ⟨n, hn⟩ : ∃ n, C.n = n := ⟨_, rfl⟩
  rw [hvl, hn] at hv
  rw [hvl, hn]
  rw [hn] at hvl hkl h7 hFl d11 hrl
  have hbX : Below w.heap.size w (w.alloc (.cells #[.slice none 0 0, .slice none 0 0, .bool false, .slice none 0 0, .slice none 0 0, .bool false, .slice none 0 0, .slice none 0 0, .bool false, .slice none 0 0, .slice none 0 0, .slice none 0 0, .slice none 0 0, .slice none 0 0] 54)) := (Below.refl _ _).alloc (Nat.le_refl _) _
  have KB := Blk.new w #[.slice none 0 0, .slice none 0 0, .bool false, .slice none 0 0, .slice none 0 0, .bool false, .slice none 0 0, .slice none 0 0, .bool false, .slice none 0 0, .slice none 0 0, .slice none 0 0, .slice none 0 0, .slice none 0 0] 54
  obtain ⟨X, hX⟩ : ∃ X, w.alloc (.cells #[.slice none 0 0, .slice none 0 0, .bool false, .slice none 0 0, .slice none 0 0, .bool false, .slice none 0 0, .slice none 0 0, .bool false, .slice none 0 0, .slice none 0 0, .slice none 0 0, .slice none 0 0, .slice none 0 0] 54) = X := ⟨_, rfl⟩
  have hXs : X.heap.size = w.heap.size + 1 := by rw [← hX]; simp
  have HXS := Lib.hid hXs
  rw [hX] at hbX KB
  have HKB := Lib.hid KB
  have HV := Lib.hid (hv.keep hbX)
  have HVR := Lib.hid hvr
  have HRW : Hid (∀ k, k < n → w.cell? ⟨g, k, none⟩ = some (.bool (rem.getD k false))) := Lib.hid (fun k hk => hC.row.cell (by rw [hn]; exact hk))
  have HVL := Lib.hid hvl
  have HKL := Lib.hid hkl
  have HRL := Lib.hid hrl
  have k11 := cell_keep hbX d11
  have RA : Hid (∀ wq, Below X.heap.size X wq → Calls Try.prog 78 #[.slice pv n cv] wq fun e w' => ∃ v', e = .returned v' ∧ (∃ css, RLst wq.heap.size v' w' (wholesS (votesS gs rem)) css) ∧ Below wq.heap.size wq w') := Lib.hid (fun wq h => ratios_c (HV.out.keep h) (fun x hx => by have := HVR.out x hx; omega) (by rw [hvl]; omega))
  have OF := Lib.hid of_z
  have hQ : quotaS gs rem = (votesS gs rem).sum / 2 + 1 := rfl
  have HQ := Lib.hid hQ
  have HEX := Lib.hid hex
  have e0 : 0 ≤ ex := by rw [hex]; exact he0
  have e1 : ex ≤ 100000 := by rw [hex]; exact he1
  clear hC hv hvr hFl hvl hkl hrl d11 hXs KB hQ hex he0 he1
  go_enter Try.func48, Try.ntmps48
  go_wp2_with fail
  go_loopw [8, 16] (fun sv iv wr => ∃ k : Nat, ∃ s : Int, k ≤ n ∧ iv = .int .i64 k ∧ sv = .int .i64 s ∧ wr = X ∧ Hid (s = ((votesS gs rem).take k).sum) ∧ 0 ≤ s ∧ s ≤ 100000 * (k : Int)) (fun _ iv _ => n - (intOf iv).toNat)
  case atStart => exact ⟨0, 0, by omega, rfl, rfl, rfl, Lib.hid rfl, by omega, by omega⟩
  case round =>
    obtain ⟨k, s, hk, rfl, rfl, rfl, hS, s0, s1⟩ := hrel
    by_cases hlt : k < n
    · have hltz : (k : Int) < (n : Int) := by omega
      obtain ⟨bb, off, hp0, hc1, hc2, hcell⟩ := HV.out.cellAt k (by rw [HVL.out]; exact hlt)
      subst hp0
      have hr := HVR.out ((votesS gs rem).getD k 0) (mem_getD (by rw [HVL.out]; exact hlt) rfl)
      have hst := sum_take_step (l := votesS gs rem) (k := k) (by rw [HVL.out]; exact hlt) rfl
      obtain ⟨y, hy⟩ : ∃ y, (votesS gs rem).getD k 0 = y := ⟨_, rfl⟩
      rw [hy] at hcell hr hst
      rw [← hS.out] at hst
      have HST := Lib.hid hst.symm
      have hws : IntKind.i64.wrap (s + y) = s + y := w64 (by omega) (by omega)
      clear hy hst
      go_wp2_with fail
      go_roundw
      case rel => exact ⟨k + 1, s + y, by omega, by go_num, rfl, by trivial, HST, by omega, by omega⟩
      case measure => simp [intOf] <;> omega
    · have hltz : ¬ (k : Int) < (n : Int) := by omega
      have hSS : s = (votesS gs rem).sum := by rw [hS.out, List.take_of_length_le (by rw [HVL.out]; omega)]
      obtain ⟨q, hq⟩ : ∃ q, s.tdiv 2 = q := ⟨_, rfl⟩
      have hq2 : q = s / 2 := by rw [← hq, Int.tdiv_eq_ediv_of_nonneg s0]
      have q0 : 0 ≤ q := by omega
      have q1 : q ≤ 350000 := by omega
      obtain ⟨z, hz⟩ : ∃ z, q + 1 = z := ⟨_, rfl⟩
      have hw1 : IntKind.i64.wrap q = q := w64 (by omega) (by omega)
      have hw2 : IntKind.i64.wrap z = z := w64 (by omega) (by omega)
      have HZ : Hid (quotaS gs rem = z) := Lib.hid (by rw [HQ.out, ← hz, hq2, hSS])
      have O1 : Hid (∀ w, Calls Try.prog 79 #[.int .i64 z] w fun e w' => ∃ p l k p' l' k', e = .returned (.agg #[.bool false, .slice p l k, .slice p' l' k']) ∧ Made w.heap.size (fun w => ratR w [.bool false, .slice p l k, .slice p' l' k'] (wholeQ z)) w' ∧ Below w.heap.size w w') := Lib.hid (fun w => OF.out z (by omega) (by omega) w)
      have O2 : Hid (∀ w, Calls Try.prog 79 #[.int .i64 ex] w fun e w' => ∃ p l k p' l' k', e = .returned (.agg #[.bool false, .slice p l k, .slice p' l' k']) ∧ Made w.heap.size (fun w => ratR w [.bool false, .slice p l k, .slice p' l' k'] (wholeQ ex)) w' ∧ Below w.heap.size w w') := Lib.hid (fun w => OF.out ex (by omega) (by omega) w)
      have O3 : Hid (∀ w, Calls Try.prog 79 #[.int .i64 0] w fun e w' => ∃ p l k p' l' k', e = .returned (.agg #[.bool false, .slice p l k, .slice p' l' k']) ∧ Made w.heap.size (fun w => ratR w [.bool false, .slice p l k, .slice p' l' k'] (wholeQ 0)) w' ∧ Below w.heap.size w w') := Lib.hid (fun w => OF.out 0 (by omega) (by omega) w)
      have O4 : Hid (∀ w, Calls Try.prog 79 #[.int .i64 1] w fun e w' => ∃ p l k p' l' k', e = .returned (.agg #[.bool false, .slice p l k, .slice p' l' k']) ∧ Made w.heap.size (fun w => ratR w [.bool false, .slice p l k, .slice p' l' k'] (wholeQ 1)) w' ∧ Below w.heap.size w w') := Lib.hid (fun w => OF.out 1 (by omega) (by omega) w)
      have hXb : wr.heap.size = w.heap.size + 1 := HXS.out
      have HXB := Lib.hid hXb
      clear hSS hq2 hXb
      go_wp2_with (first
        | (go_at_call 78; ((with_reducible refine (RA.out _ (Below.refl _ _)).mono ?_); rintro e w1 ⟨v1, rfl, ⟨css1, hR1⟩, hb1⟩; obtain ⟨p1, l1, k1, rfl⟩ := own_sl hR1.own; have M1 := Lib.hid (hR1.made (Nat.le_refl _) (Nat.le_refl _)); clear hR1))
        | (go_at_call 79; ((with_reducible refine (O1.out _).mono ?_); rintro e w2 ⟨p2, l2, k2, p3, l3, k3, rfl, m2, hb2⟩; have M2 := Lib.hid m2; have hB2 := bel2' hb1 hb2; clear m2))
        | (go_at_call 79; ((with_reducible refine (O2.out _).mono ?_); rintro e w3 ⟨p4, l4, k4, p5, l5, k5, rfl, m3, hb3⟩; have M3 := Lib.hid m3; have hB3 := bel2' hB2 hb3; clear m3))
        | (go_at_call 79; ((with_reducible refine (O3.out _).mono ?_); rintro e w4 ⟨p6, l6, k6, p7, l7, k7, rfl, m4, hb4⟩; have M4 := Lib.hid m4; have hB4 := bel2' hB3 hb4; clear m4; have KB4 := HKB.out.keep hB4; have c0 := KB4.2.1 0; have f0 := KB4.2.2 0; simp at c0; have c1 := KB4.2.1 1; have f1 := KB4.2.2 1; simp at c1; have c2 := KB4.2.1 2; have f2 := KB4.2.2 2; simp at c2; have c3 := KB4.2.1 3; have f3 := KB4.2.2 3; simp at c3; have c4 := KB4.2.1 4; have f4 := KB4.2.2 4; simp at c4; have c5 := KB4.2.1 5; have f5 := KB4.2.2 5; simp at c5; have c6 := KB4.2.1 6; have f6 := KB4.2.2 6; simp at c6; have c7 := KB4.2.1 7; have f7 := KB4.2.2 7; simp at c7; have c8 := KB4.2.1 8; have f8 := KB4.2.2 8; simp at c8; have c9 := KB4.2.1 9; have f9 := KB4.2.2 9; simp at c9; have c10 := KB4.2.1 10; have f10 := KB4.2.2 10; simp at c10; have c11 := KB4.2.1 11; have f11 := KB4.2.2 11; simp at c11; have c12 := KB4.2.1 12; have f12 := KB4.2.2 12; simp at c12; have c13 := KB4.2.1 13; have f13 := KB4.2.2 13; simp at c13; have HK4 := Lib.hid KB4; have y11 := cell14 (cell_keep hB4 k11) (show B ≠ w.heap.size by omega); clear KB4)))
      obtain ⟨Y, hY⟩ : ∃ Y, ((((((((((((((w4.setCell ⟨w.heap.size, 0, none⟩ (.slice p1 l1 k1)).setCell ⟨w.heap.size, 1, none⟩ (.slice none 0 0)).setCell ⟨w.heap.size, 2, none⟩ (.bool false)).setCell ⟨w.heap.size, 3, none⟩ (.slice p2 l2 k2)).setCell ⟨w.heap.size, 4, none⟩ (.slice p3 l3 k3)).setCell ⟨w.heap.size, 5, none⟩ (.bool false)).setCell ⟨w.heap.size, 6, none⟩ (.slice p4 l4 k4)).setCell ⟨w.heap.size, 7, none⟩ (.slice p5 l5 k5)).setCell ⟨w.heap.size, 8, none⟩ (.bool false)).setCell ⟨w.heap.size, 9, none⟩ (.slice p6 l6 k6)).setCell ⟨w.heap.size, 10, none⟩ (.slice p7 l7 k7)).setCell ⟨w.heap.size, 11, none⟩ (.slice none 0 0)).setCell ⟨w.heap.size, 12, none⟩ (.slice none 0 0)).setCell ⟨w.heap.size, 13, none⟩ (.slice none 0 0)) = Y := ⟨_, rfl⟩
      have KY : Blk w.heap.size (rndA (.slice p1 l1 k1) (.slice none 0 0) (.slice p2 l2 k2) (.slice p3 l3 k3) (.slice p4 l4 k4) (.slice p5 l5 k5) (.slice p6 l6 k6) (.slice p7 l7 k7) (.slice none 0 0) (.slice none 0 0) (.slice none 0 0)) Y := by
        rw [← hY]; exact blk14 HK4.out (.slice p1 l1 k1) (.slice none 0 0) (.bool false) (.slice p2 l2 k2) (.slice p3 l3 k3) (.bool false) (.slice p4 l4 k4) (.slice p5 l5 k5) (.bool false) (.slice p6 l6 k6) (.slice p7 l7 k7) (.slice none 0 0) (.slice none 0 0) (.slice none 0 0)
      have hYs : Y.heap.size = w4.heap.size := by rw [← hY]; simp
      have z1 := hb1.size
      have z2 := hb2.size
      have z3 := hb3.size
      have z4 := hb4.size
      have zX := HXB.out
      have hbY : Below w.heap.size w Y := by rw [← hY]; exact below14 (hbX.trans (hB4.mono (by omega))) (Nat.le_refl _) (.slice p1 l1 k1) (.slice none 0 0) (.bool false) (.slice p2 l2 k2) (.slice p3 l3 k3) (.bool false) (.slice p4 l4 k4) (.slice p5 l5 k5) (.bool false) (.slice p6 l6 k6) (.slice p7 l7 k7) (.slice none 0 0) (.slice none 0 0) (.slice none 0 0)
      have hH : Made (w.heap.size + 1) (fun w => RatsAt w (.slice p1 l1 k1) (wholesS (votesS gs rem)) ∧ ratR w [.bool false, .slice p2 l2 k2, .slice p3 l3 k3] (wholeQ z) ∧ ratR w [.bool false, .slice p4 l4 k4, .slice p5 l5 k5] (wholeQ ex) ∧ ratR w [.bool false, .slice p6 l6 k6, .slice p7 l7 k7] (wholeQ 0)) Y := by
        rw [← hY]
        refine made14 ?_ (.slice p1 l1 k1) (.slice none 0 0) (.bool false) (.slice p2 l2 k2) (.slice p3 l3 k3) (.bool false) (.slice p4 l4 k4) (.slice p5 l5 k5) (.bool false) (.slice p6 l6 k6) (.slice p7 l7 k7) (.slice none 0 0) (.slice none 0 0) (.slice none 0 0)
        have a1 := (M1.out.keep (bel2' (bel2' hb2 hb3) hb4)).mono (B' := w.heap.size + 1) (by omega)
        have a2 := (M2.out.keep (bel2' hb3 hb4)).mono (B' := w.heap.size + 1) (by omega)
        have a3 := (M3.out.keep hb4).mono (B' := w.heap.size + 1) (by omega)
        have a4 := M4.out.mono (B' := w.heap.size + 1) (by omega)
        exact a1.both (a2.both (a3.both a4))
      have HHd := Lib.hid hH
      have HKY := Lib.hid KY
      have hbE : w.heap.size < Y.heap.size := by omega
      rw [hY]
      obtain ⟨E2, hE2⟩ : ∃ E, Y.heap.size = E := ⟨_, rfl⟩
      have HE2 := Lib.hid hE2
      rw [hE2] at hbE
      clear hY y11 hH KY hYs hE2 c0 f0 c1 f1 c2 f2 c3 f3 c4 f4 c5 f5 c6 f6 c7 f7 c8 f8 c9 f9 c10 f10 c11 f11 c12 f12 c13 f13
      go_loopw [40] (fun iv wq => ∃ k : Nat, ∃ vk css, k ≤ n ∧ iv = .int .i64 k ∧ Blk w.heap.size (rndA (.slice p1 l1 k1) vk (.slice p2 l2 k2) (.slice p3 l3 k3) (.slice p4 l4 k4) (.slice p5 l5 k5) (.slice p6 l6 k6) (.slice p7 l7 k7) (.slice none 0 0) (.slice none 0 0) (.slice none 0 0)) wq ∧ Lst2 ratR E2 (fun _ => False) 52 3 vk wq (wholesS ((keepS rem).take k)) css ∧ Hid (On (fun x => w.heap.size + 1 ≤ x ∧ x < E2) (fun w => RatsAt w (.slice p1 l1 k1) (wholesS (votesS gs rem)) ∧ ratR w [.bool false, .slice p2 l2 k2, .slice p3 l3 k3] (wholeQ z) ∧ ratR w [.bool false, .slice p4 l4 k4, .slice p5 l5 k5] (wholeQ ex) ∧ ratR w [.bool false, .slice p6 l6 k6, .slice p7 l7 k7] (wholeQ 0)) wq) ∧ Below w.heap.size w wq ∧ E2 ≤ wq.heap.size) (fun iv _ => n - (intOf iv).toNat)
      case atStart => exact ⟨0, _, _, by omega, rfl, HKY.out, Lst2.nil _, Lib.hid (by rw [← HE2.out]; exact HHd.out), hbY, by rw [HE2.out]; exact Nat.le_refl _⟩
      case round =>
        obtain ⟨k, vk, css, hk, rfl, hKq, hLK, hH, hbel, hE2⟩ := hrel
        have hws := hbel.size
        by_cases hlt : k < n
        · have hltz : (k : Int) < (n : Int) := by omega
          have hcell := cell_keep hbel (HRW.out k hlt)
          have r1 : _ = some vk := hKq.2.1 1
          have hkw : (wholesS ((keepS rem).take k)).length ≤ k := by rw [wholes_len, List.length_take]; omega
          have HN1 : Hid (((wholesS ((keepS rem).take k)).length + 1) * 56 ≤ 140737488355328) := Lib.hid (by omega)
          have HN2 : Hid ((wholesS ((keepS rem).take k)).length + 1 ≤ 9223372036854775807) := Lib.hid (by omega)
          clear hkw
          cases hbk : rem.getD k false
          all_goals rw [hbk] at hcell
          · have HST : Hid ((keepS rem).getD k 0 = 0) := Lib.hid (by rw [keep_get (by rw [HRL.out]; exact hlt), hbk]; rfl)
            have HTK : Hid (wholesS ((keepS rem).take k) ++ [wholeQ 0] = wholesS ((keepS rem).take (k + 1))) := Lib.hid (wholes_snoc (by rw [HKL.out]; exact hlt) HST.out).symm
            clear hbk
            go_wp2_with fail
            go_region_law (first
              | (refine step_append_lst2 erQ (by rfl) (by rfl) (HL5.out _) (by rfl) (by rfl) (c := [.bool false, .slice pa la ka, .slice pb lb kb]) (fun j u h => alloc_cell _ _ _ _ j u (by simpa using h)) (by rfl) (by simp [Value.oneCell']) HN1.out HN2.out (HSZ.out _) (HO5.out _) (HEL.out _) ?_; intro v6 w6 hL6 hb6 hg6 hG6; obtain ⟨py, ny, cy, rfl⟩ := own_sl hL6.own; have hL6 := Lib.hid hL6; have hb6h := Lib.hid hb6; have hK6 := HC6.out _ _ hb6; have g1 := hK6.2.1 1; have g1f := hK6.2.2 1; simp [rndA] at g1; have hK6 := Lib.hid hK6)
              | (go_simp; go_at_call 79; ((with_reducible refine (O3.out _).mono ?_); rintro e w5 ⟨pa, la, ka, pb, lb, kb, rfl, m5, hb5⟩; obtain ⟨hW5, HL5, HEL, HSZ, HO5, HC6, HDA⟩ := rnd_arm hLK hE2 hbE hKq hb5 m5; have r1b := cell_keep hW5 r1; have r1c := fun ob => cell_keep (HDA.out ob) r1)))
            all_goals
              go_wp2_with fail
              go_roundw
              case rel =>
                have hbq : Below w.heap.size w (w6.setCell ⟨w.heap.size, 1, none⟩ (.slice py ny cy)) := ((hbel.trans ((HDA.out _).mono hws)).trans (hb6h.out.mono (by omega))).setCell (p := ⟨w.heap.size, 1, none⟩) (Nat.le_refl _) _
                have hB7 : Blk w.heap.size (rndA (.slice p1 l1 k1) (.slice py ny cy) (.slice p2 l2 k2) (.slice p3 l3 k3) (.slice p4 l4 k4) (.slice p5 l5 k5) (.slice p6 l6 k6) (.slice p7 l7 k7) (.slice none 0 0) (.slice none 0 0) (.slice none 0 0)) (w6.setCell ⟨w.heap.size, 1, none⟩ (.slice py ny cy)) := blk_put hK6.out (o := 1) (by simp [rndA]) _
                have hL7 := hL6.out.put (b := w.heap.size) (j := 1) hbE (.slice py ny cy)
                rw [HTK.out] at hL7
                have hO7 := On.step (w' := w6.setCell ⟨w.heap.size, 1, none⟩ (.slice py ny cy)) hH.out fun b hb => by rw [Below.heap_setCell _ _ _ _ (by simp only; omega), hb6h.out.block b hb.2, (HDA.out _).block b (by omega)]
                have hs7 : E2 ≤ (w6.setCell ⟨w.heap.size, 1, none⟩ (.slice py ny cy)).heap.size := by rw [World.size_setCell]; exact Nat.le_trans (HSZ.out _) hb6h.out.size
                exact ⟨k + 1, _, _, by omega, by go_num, hB7, hL7, Lib.hid hO7, hbq, hs7⟩
              case measure => simp [intOf] <;> omega
          · have HST : Hid ((keepS rem).getD k 0 = 1) := Lib.hid (by rw [keep_get (by rw [HRL.out]; exact hlt), hbk]; rfl)
            have HTK : Hid (wholesS ((keepS rem).take k) ++ [wholeQ 1] = wholesS ((keepS rem).take (k + 1))) := Lib.hid (wholes_snoc (by rw [HKL.out]; exact hlt) HST.out).symm
            clear hbk
            go_wp2_with fail
            go_region_law (first
              | (refine step_append_lst2 erQ (by rfl) (by rfl) (HL5.out _) (by rfl) (by rfl) (c := [.bool false, .slice pa la ka, .slice pb lb kb]) (fun j u h => alloc_cell _ _ _ _ j u (by simpa using h)) (by rfl) (by simp [Value.oneCell']) HN1.out HN2.out (HSZ.out _) (HO5.out _) (HEL.out _) ?_; intro v6 w6 hL6 hb6 hg6 hG6; obtain ⟨py, ny, cy, rfl⟩ := own_sl hL6.own; have hL6 := Lib.hid hL6; have hb6h := Lib.hid hb6; have hK6 := HC6.out _ _ hb6; have g1 := hK6.2.1 1; have g1f := hK6.2.2 1; simp [rndA] at g1; have hK6 := Lib.hid hK6)
              | (go_simp; go_at_call 79; ((with_reducible refine (O4.out _).mono ?_); rintro e w5 ⟨pa, la, ka, pb, lb, kb, rfl, m5, hb5⟩; obtain ⟨hW5, HL5, HEL, HSZ, HO5, HC6, HDA⟩ := rnd_arm hLK hE2 hbE hKq hb5 m5; have r1b := cell_keep hW5 r1; have r1c := fun ob => cell_keep (HDA.out ob) r1)))
            all_goals
              go_wp2_with fail
              go_roundw
              case rel =>
                have hbq : Below w.heap.size w (w6.setCell ⟨w.heap.size, 1, none⟩ (.slice py ny cy)) := ((hbel.trans ((HDA.out _).mono hws)).trans (hb6h.out.mono (by omega))).setCell (p := ⟨w.heap.size, 1, none⟩) (Nat.le_refl _) _
                have hB7 : Blk w.heap.size (rndA (.slice p1 l1 k1) (.slice py ny cy) (.slice p2 l2 k2) (.slice p3 l3 k3) (.slice p4 l4 k4) (.slice p5 l5 k5) (.slice p6 l6 k6) (.slice p7 l7 k7) (.slice none 0 0) (.slice none 0 0) (.slice none 0 0)) (w6.setCell ⟨w.heap.size, 1, none⟩ (.slice py ny cy)) := blk_put hK6.out (o := 1) (by simp [rndA]) _
                have hL7 := hL6.out.put (b := w.heap.size) (j := 1) hbE (.slice py ny cy)
                rw [HTK.out] at hL7
                have hO7 := On.step (w' := w6.setCell ⟨w.heap.size, 1, none⟩ (.slice py ny cy)) hH.out fun b hb => by rw [Below.heap_setCell _ _ _ _ (by simp only; omega), hb6h.out.block b hb.2, (HDA.out _).block b (by omega)]
                have hs7 : E2 ≤ (w6.setCell ⟨w.heap.size, 1, none⟩ (.slice py ny cy)).heap.size := by rw [World.size_setCell]; exact Nat.le_trans (HSZ.out _) hb6h.out.size
                exact ⟨k + 1, _, _, by omega, by go_num, hB7, hL7, Lib.hid hO7, hbq, hs7⟩
              case measure => simp [intOf] <;> omega
        · obtain rfl : k = n := by omega
          obtain ⟨pk, nk, ck, rfl⟩ := own_sl hLK.own
          rw [List.take_of_length_le (by rw [HKL.out]; exact Nat.le_refl _)] at hLK
          have hzE := HE2.out
          have hMK : Made (w.heap.size + 1) (fun w => RatsAt w (.slice pk nk ck) (wholesS (keepS rem))) wr := hLK.lst.made (by omega) (by omega)
          have hMH : Made (w.heap.size + 1) (fun w => RatsAt w (.slice p1 l1 k1) (wholesS (votesS gs rem)) ∧ ratR w [.bool false, .slice p2 l2 k2, .slice p3 l3 k3] (wholeQ z) ∧ ratR w [.bool false, .slice p4 l4 k4, .slice p5 l5 k5] (wholeQ ex) ∧ ratR w [.bool false, .slice p6 l6 k6, .slice p7 l7 k7] (wholeQ 0)) wr := On.mono hH.out fun b hb => ⟨hb.1, by omega⟩
          have hMR : Made (w.heap.size + 1) (fun w => RndH w (.slice p1 l1 k1) (.slice pk nk ck) (.slice p2 l2 k2) (.slice p3 l3 k3) (.slice p4 l4 k4) (.slice p5 l5 k5) (.slice p6 l6 k6) (.slice p7 l7 k7) (mkR gs rem [] [] [])) wr := (hMH.both hMK).imp fun w' g => ⟨g.1.1, g.2, by show ratR w' _ (wholeQ (quotaS gs rem)); rw [HZ.out]; exact g.1.2.1, by show ratR w' _ (wholeQ (restS gs rem)); rw [← HEX.out]; exact g.1.2.2.1, g.1.2.2.2⟩
          have hM14 := Lib.hid ((made14 hMR (.slice p1 l1 k1) (.slice pk nk ck) (.bool false) (.slice p2 l2 k2) (.slice p3 l3 k3) (.bool false) (.slice p4 l4 k4) (.slice p5 l5 k5) (.bool false) (.slice p6 l6 k6) (.slice p7 l7 k7) (.slice none 0 0) (.slice none 0 0) (.slice none 0 0)).mono (Nat.le_succ _))
          have hB14 := Lib.hid (below14 hbel (Nat.le_refl _) (.slice p1 l1 k1) (.slice pk nk ck) (.bool false) (.slice p2 l2 k2) (.slice p3 l3 k3) (.bool false) (.slice p4 l4 k4) (.slice p5 l5 k5) (.bool false) (.slice p6 l6 k6) (.slice p7 l7 k7) (.slice none 0 0) (.slice none 0 0) (.slice none 0 0))
          have c0 := hKq.2.1 0
          have f0 := hKq.2.2 0
          have c1 := hKq.2.1 1
          have f1 := hKq.2.2 1
          have c2 := hKq.2.1 2
          have f2 := hKq.2.2 2
          have c3 := hKq.2.1 3
          have f3 := hKq.2.2 3
          have c4 := hKq.2.1 4
          have f4 := hKq.2.2 4
          have c5 := hKq.2.1 5
          have f5 := hKq.2.2 5
          have c6 := hKq.2.1 6
          have f6 := hKq.2.2 6
          have c7 := hKq.2.1 7
          have f7 := hKq.2.2 7
          have c8 := hKq.2.1 8
          have f8 := hKq.2.2 8
          have c9 := hKq.2.1 9
          have f9 := hKq.2.2 9
          have c10 := hKq.2.1 10
          have f10 := hKq.2.2 10
          have c11 := hKq.2.1 11
          have f11 := hKq.2.2 11
          have c12 := hKq.2.1 12
          have f12 := hKq.2.2 12
          have c13 := hKq.2.1 13
          have f13 := hKq.2.2 13
          simp only [rndA, List.getElem?_toArray, List.getElem?_cons_zero, List.getElem?_cons_succ] at c0 c1 c2 c3 c4 c5 c6 c7 c8 c9 c10 c11 c12 c13
          clear hMK hMH hMR hKq hLK
          go_wp2_with fail
          refine bodyPost_ret (v := .tuple #[.agg (rndA (.slice p1 l1 k1) (.slice pk nk ck) (.slice p2 l2 k2) (.slice p3 l3 k3) (.slice p4 l4 k4) (.slice p5 l5 k5) (.slice p6 l6 k6) (.slice p7 l7 k7) (.slice none 0 0) (.slice none 0 0) (.slice none 0 0)), .int .i64 z]) (by simp [rndA, results, Try.results48, go_sem, c0, c1, c2, c3, c4, c5, c6, c7, c8, c9, c10, c11, c12, c13]) rfl ?_
          exact ⟨_, _, _, _, _, _, _, _, by rw [HZ.out], hM14.out, ⟨⟨_, _, _, rfl⟩, ⟨_, _, _, rfl⟩, ⟨_, _, _, rfl⟩, ⟨_, _, _, rfl⟩, ⟨_, _, _, rfl⟩, ⟨_, _, _, rfl⟩, ⟨_, _, _, rfl⟩, ⟨_, _, _, rfl⟩⟩, hB14.out⟩

end Go.Proofs.Ytbnhgmikegdppaa

/- Each candidate that can win wins for some lots, plain. -/
namespace Go.Proofs.Nums

/-- A way down: who is excluded, one after the other, and what then remains. -/
inductive Path (n : Int) (gs : List Grp) : List Int → (Int → Bool) → Prop
  | full : Path n gs [] (fun c => decide (0 ≤ c ∧ c < n))
  | step {es : List Int} {R : Int → Bool} {x d : Int} : Path n gs es R → Low gs R x → R d = true → d ≠ x → Path n gs (es ++ [x]) (fun d => R d && decide (d ≠ x))
theorem path_of {n : Int} {gs : List Grp} {R : Int → Bool} (h : Rch n gs R) : ∃ es, Path n gs es R := by
  induction h with
  | full => exact ⟨[], Path.full⟩
  | step h hl hd hx ih => obtain ⟨es, he⟩ := ih; exact ⟨_, he.step hl hd hx⟩
structure PF (n : Int) (es : List Int) (R : Int → Bool) : Prop where
  nd : es.Nodup
  off : ∀ c, R c = true → c ∉ es
  all : ∀ c, 0 ≤ c → c < n → c ∈ es ∨ R c = true
  rng : ∀ c, c ∈ es ∨ R c = true → 0 ≤ c ∧ c < n
theorem Path.facts {n : Int} {gs : List Grp} {es : List Int} {R : Int → Bool} (h : Path n gs es R) : PF n es R := by
  induction h with
  | full => exact ⟨List.nodup_nil, fun c _ => by simp, fun c h0 h1 => .inr (by simpa using ⟨h0, h1⟩), fun c h => by
      rcases h with h | h
      · simp at h
      · simpa using h⟩
  | @step es R x d h hl hd hx ih =>
    have hxr : R x = true := hl.1
    refine ⟨?_, fun c hc => ?_, fun c h0 h1 => ?_, fun c hc => ?_⟩
    · rw [List.nodup_append]
      refine ⟨ih.nd, by simp, fun a ha b hb e => ?_⟩
      rw [List.mem_singleton.1 hb] at e
      subst e
      exact ih.off a hxr ha
    · rw [Bool.and_eq_true, decide_eq_true_iff] at hc
      rw [List.mem_append, List.mem_singleton]
      rintro (g | g)
      · exact ih.off c hc.1 g
      · exact hc.2 g
    · by_cases e : c = x
      · exact .inl (by simp [e])
      · rcases ih.all c h0 h1 with g | g
        · exact .inl (List.mem_append_left _ g)
        · exact .inr (by simp [g, e])
    · rcases hc with g | g
      · rcases List.mem_append.1 g with g | g
        · exact ih.rng c (.inl g)
        · rw [List.mem_singleton.1 g]; exact ih.rng x (.inr hxr)
      · rw [Bool.and_eq_true] at g
        exact ih.rng c (.inr g.1)
theorem place_in {a b : List Int} {x : Int} (h : x ∈ a) : placeN (a ++ b) x < a.length := by
  induction a with
  | nil => simp at h
  | cons y a ih =>
    rw [List.cons_append]
    unfold placeN
    split
    · simp
    · next e =>
      have : x ∈ a := by
        rcases List.mem_cons.1 h with g | g
        · exact absurd g.symm e
        · exact g
      have := ih this
      simp
      omega
theorem place_off {a b : List Int} {x : Int} (h : x ∉ a) : a.length ≤ placeN (a ++ b) x := by
  induction a with
  | nil => simp
  | cons y a ih =>
    rw [List.cons_append]
    unfold placeN
    rw [List.mem_cons, not_or] at h
    rw [if_neg (fun e => h.1 e.symm)]
    have := ih h.2
    simp
    omega
/-- With the excluded ones at the end of the lots, the last first, the count goes this way. -/
theorem path_run {n : Nat} {gs : List Grp} (hn : 1 ≤ n) (h7 : n ≤ 7) {es : List Int} {R : Int → Bool} (h : Path n gs es R) : ∀ (front : List Int), Lots n (front ++ es.reverse) → ∀ m, ∃ rem ear, rem.length = n ∧ remB rem = R ∧ orderS (brkS 3 (front ++ es.reverse)) gs (es.length + m) (List.replicate n true) [] = es ++ orderS (brkS 3 (front ++ es.reverse)) gs m rem ear := by
  induction h with
  | full => exact fun front _ m => ⟨List.replicate n true, [], List.length_replicate, rem_full n, by simp⟩
  | @step es R x d h hl hd hdx ih =>
    intro front hlots m
    have e : front ++ (es ++ [x]).reverse = (front ++ [x]) ++ es.reverse := by simp
    rw [e] at hlots ⊢
    obtain ⟨rem, ear, r1, r2, r3⟩ := ih (front ++ [x]) hlots (m + 1)
    have hf := h.facts
    generalize hL : (front ++ [x]) ++ es.reverse = lots at hlots r3 ⊢
    have hxa : x ∈ aliveS rem := mem_alive.2 (by rw [r2]; exact hl.1)
    have hda : d ∈ aliveS rem := mem_alive.2 (by rw [r2]; exact hd)
    have hne : aliveS rem ≠ [] := fun e => by rw [e] at hxa; simp at hxa
    have h1 : 1 < (aliveS rem).length := by
      refine Classical.byContradiction fun g => ?_
      have h0 : 0 < (aliveS rem).length := List.length_pos_of_mem hxa
      obtain ⟨y, hy⟩ := List.length_eq_one_iff.1 (show (aliveS rem).length = 1 by omega)
      rw [hy] at hxa hda
      exact hdx ((List.mem_singleton.1 hda).trans (List.mem_singleton.1 hxa).symm)
    have hxl : x ∈ lowS gs rem := mem_low.2 (by rw [r2]; exact hl)
    have hnd := hlots.1.2
    have hex : exclS (brkS 3 lots) gs rem ear = x := by
      unfold exclS
      have hlne := low_ne (gs := gs) hne
      split
      · have hv := lots_valid (rule := 3) hlots (by omega) (by omega) hn h7 hlne (fun c hc => by have := remB_lt (mem_alive.1 (low_sub hc)); rw [r1] at this; exact this) (low_sorted gs rem)
        unfold brkS
        rw [break_valid hv]
        have e0 : leftS true (roundsS 3 (ear.map wholesS)) (lowS gs rem) = lowS gs rem := by simp [roundsS, leftS]
        rw [e0, if_neg (by omega)]
        simp only
        have hp := pick_mem (lots := lots) (least := true) hlne
        have hfar := pick_far (lots := lots) (least := true) hlne x hxl
        simp only [if_true] at hfar
        generalize pickS lots true (lowS gs rem) = y at hp hfar ⊢
        refine Classical.byContradiction fun hyx => ?_
        have hya := mem_alive.1 (low_sub hp)
        rw [r2] at hya
        have hyl : y ∈ lots := by
          have hr := hf.rng y (.inr hya)
          have := bal_mem (l := lots) (by rw [hlots.2]; exact hlots.1) hr.1 (by rw [hlots.2]; exact hr.2)
          exact this
        have hyf : y ∈ front := by
          rw [← hL, List.mem_append, List.mem_append, List.mem_singleton, List.mem_reverse] at hyl
          rcases hyl with (g | g) | g
          · exact g
          · exact absurd g hyx
          · exact absurd g (hf.off y hya)
        have p1 : placeN lots y < front.length := by
          rw [← hL, List.append_assoc]; exact place_in hyf
        have hxf : x ∉ front := by
          rw [← hL, List.append_assoc, List.nodup_append] at hnd
          exact fun g => hnd.2.2 x g x (by simp) rfl
        have p2 : front.length ≤ placeN lots x := by
          rw [← hL, List.append_assoc]; exact place_off hxf
        omega
      · next g =>
        have h0 : 0 < (lowS gs rem).length := List.length_pos_of_mem hxl
        obtain ⟨y, hy⟩ := List.length_eq_one_iff.1 (show (lowS gs rem).length = 1 by omega)
        rw [hy] at hxl ⊢
        exact (List.mem_singleton.1 hxl).symm
    have rx := remB_lt (mem_alive.1 hxa)
    refine ⟨rem.set x.toNat false, ear ++ [votesS gs rem], by rw [List.length_set]; exact r1, by rw [rem_set rx.1, r2], ?_⟩
    rw [List.length_append, List.length_singleton, show es.length + 1 + m = es.length + (m + 1) by omega, r3]
    conv => lhs; rw [orderS.eq_def]
    simp only
    rw [if_pos h1, hex, List.append_assoc]
    rfl
theorem can_lots {n : Nat} {gs : List Grp} (hn : 1 ≤ n) (h7 : n ≤ 7) {c : Int} (h : Rch n gs (single c)) : ∃ lots, Lots n lots ∧ (orderS (brkS 3 lots) gs n (List.replicate n true) []).getLast? = some c := by
  obtain ⟨es, he⟩ := path_of h
  have hf := he.facts
  have hsc : single c c = true := by simp [single]
  have hce := hf.off c hsc
  have hnd : (c :: es).Nodup := List.nodup_cons.2 ⟨hce, hf.nd⟩
  have hmem : ∀ y : Int, y ∈ c :: es ↔ 0 ≤ y ∧ y < n := by
    intro y
    rw [List.mem_cons]
    constructor
    · rintro (g | g)
      · rw [g]; exact hf.rng c (.inr hsc)
      · exact hf.rng y (.inl g)
    · rintro ⟨h0, h1⟩
      rcases hf.all y h0 h1 with g | g
      · exact .inr g
      · left; simpa [single] using g
  have hlen : es.length + 1 = n := by
    have hp : (c :: es).Perm ((List.range n).map fun i : Nat => (i : Int)) := by
      refine (List.perm_ext_iff_of_nodup hnd (sorted_nodup (range_sorted n))).2 fun y => ?_
      rw [hmem, List.mem_map]
      constructor
      · rintro ⟨h0, h1⟩
        exact ⟨y.toNat, List.mem_range.2 (by omega), by omega⟩
      · rintro ⟨i, hi, rfl⟩
        have := List.mem_range.1 hi
        omega
    have := hp.length_eq
    simpa using this
  have hl : Lots n ([c] ++ es.reverse) := by
    refine ⟨⟨fun y hy => ?_, ?_⟩, by simp; omega⟩
    · refine (hmem y).1 ?_
      rw [List.mem_append, List.mem_singleton, List.mem_reverse] at hy
      exact List.mem_cons.2 hy
    · rw [List.singleton_append, List.nodup_cons, List.mem_reverse]
      exact ⟨hce, (List.reverse_perm es).nodup_iff.2 hf.nd⟩
  obtain ⟨rem, ear, r1, r2, r3⟩ := path_run hn h7 he [c] hl 1
  refine ⟨_, hl, ?_⟩
  rw [hlen] at r3
  rw [r3]
  have ha : aliveS rem = [c] := by
    have hca : c ∈ aliveS rem := mem_alive.2 (by rw [r2]; exact hsc)
    have hall : ∀ y ∈ aliveS rem, y = c := fun y hy => by
      have := mem_alive.1 hy
      rw [r2] at this
      simpa [single] using this
    have hnd := sorted_nodup (alive_sorted rem)
    cases hal : aliveS rem with
    | nil => rw [hal] at hca; simp at hca
    | cons a t =>
      rw [hal] at hall hnd
      have ea := hall a (by simp)
      cases t with
      | nil => rw [ea]
      | cons b t =>
        have eb := hall b (by simp)
        rw [ea, eb] at hnd
        simp at hnd
  conv => lhs; rw [orderS.eq_def]
  simp only
  rw [ha, if_neg (by simp)]
  simp

end Go.Proofs.Nums

/- When a contest can be counted; bounds of votes; steps of the order, plain. -/
namespace Go.Proofs.Nums

theorem PileP.seven {n : Int} {gs : List Grp} (h : PileP n gs) (h7 : n ≤ 7) : PileP 7 gs :=
  ⟨fun g hg => ⟨fun c hc => by have := (h.bal g hg).1 c hc; omega, (h.bal g hg).2⟩, h.pos, h.tot, h.srt⟩
theorem votes_rng {gs : List Grp} {rem : List Bool} {n : Int} (hp : PileP n gs) : ∀ x ∈ votesS gs rem, 0 ≤ x ∧ x ≤ 100000 := by
  intro x hx
  obtain ⟨i, _, rfl⟩ := List.mem_map.1 hx
  have := wt_tot (R := remB rem) hp.pos i
  have := hp.tot
  omega
theorem rest_rng {gs : List Grp} {rem : List Bool} {n : Int} (hp : PileP n gs) : 0 ≤ restS gs rem ∧ restS gs rem ≤ 100000 := by
  have := wt_tot (R := remB rem) hp.pos (-1)
  have := hp.tot
  unfold restS
  omega
theorem order_more {brk : List (List Int) → List Int → Int} {gs : List Grp} {k : Nat} {rem : List Bool} {ear : List (List Int)} (h : 1 < (aliveS rem).length) :
    orderS brk gs (k + 1) rem ear = exclS brk gs rem ear :: orderS brk gs k (rem.set (exclS brk gs rem ear).toNat false) (ear ++ [votesS gs rem]) := by
  rw [orderS.eq_def]; simp only; rw [if_pos h]
theorem order_done {brk : List (List Int) → List Int → Int} {gs : List Grp} {k : Nat} {rem : List Bool} {ear : List (List Int)} (h : ¬ 1 < (aliveS rem).length) : orderS brk gs (k + 1) rem ear = aliveS rem := by
  rw [orderS.eq_def]; simp only; rw [if_neg h]
theorem alive_all_len (n : Nat) : (aliveS (List.replicate n true)).length = n := by rw [alive_full]; simp
theorem perm_true {n : Nat} {l : List Int} : (decide (l.length = n) && balS n l) = true ↔ Lots n l := by
  unfold Lots balS
  rw [Bool.and_eq_true, decide_eq_true_iff, decide_eq_true_iff]
  exact And.comm

end Go.Proofs.Nums
namespace Go.Proofs.Ytbnhgmikegdppaa
open Go.RowKit Go.Proofs.Kit Go.Proofs.Nums

/-- The contest can be counted. -/
structure OkC (C : ConP) (gs : List Grp) (lots : List Int) : Prop where
  cm : C.cm = 1
  n1 : 1 ≤ C.n
  n7 : C.n ≤ 7
  seats : C.seats = 1
  digits : C.digits = 0
  t1 : 1 ≤ C.ties
  t3 : C.ties ≤ 3
  pile : PileP C.n gs
  lots : Lots C.n lots
/-- What pile.Fit says. -/
noncomputable def fitC (C : ConP) (gs : List Grp) (lots : List Int) : Int := fitS C.n C.cm C.seats C.digits C.ties gs lots
theorem fit_iff {C : ConP} {gs : List Grp} {lots : List Int} : fitC C gs lots = 0 ↔ OkC C gs lots := by
  unfold fitC fitS
  constructor
  · intro h
    split at h
    · next h1 =>
      split at h
      · next h2 =>
        split at h
        · next h3 =>
          split at h
          · next h4 => exact ⟨h1, h2.1, h2.2.1, h2.2.2.1, h2.2.2.2.1, h2.2.2.2.2.1, h2.2.2.2.2.2, pile_true.1 h3, perm_true.1 h4⟩
          · omega
        · omega
      · omega
    · omega
  · intro h
    rw [if_pos h.cm, if_pos ⟨h.n1, h.n7, h.seats, h.digits, h.t1, h.t3⟩, if_pos (pile_true.2 h.pile), if_pos (show permB C.n lots = true from perm_true.2 h.lots)]
theorem OkC.brk {C : ConP} {gs : List Grp} {lots : List Int} (h : OkC C gs lots) : Brk C.n (brkS C.ties lots) := brk_in h.lots h.t1 h.t3 h.n1 h.n7
theorem OkC.seven {C : ConP} {gs : List Grp} {lots : List Int} (h : OkC C gs lots) : PileP 7 gs := h.pile.seven (by have := h.n7; omega)
def conC (C : ConP) : Value := conV C.nm C.p C.n C.c C.cm C.seats C.ranks C.digits C.ties C.over C.skip

end Go.Proofs.Ytbnhgmikegdppaa

/- Sets of candidates as bit masks, and what can be reached; plain. -/
namespace Go.Proofs.Nums

/-- The members of a mask, as flags. -/
def remS (n s : Nat) : List Bool := (List.range n).map fun c => s.testBit c
theorem remS_len (n s : Nat) : (remS n s).length = n := by simp [remS]
theorem remS_get {n s c : Nat} (h : c < n) : (remS n s).getD c false = s.testBit c := by
  unfold remS
  rw [List.getD_eq_getElem?_getD, List.getElem?_map, List.getElem?_range h]
  rfl
theorem remS_at {n s : Nat} (c : Int) : remB (remS n s) c = decide (0 ≤ c ∧ c < n ∧ s.testBit c.toNat = true) := by
  rw [Bool.eq_iff_iff, decide_eq_true_iff]
  constructor
  · intro h
    have h2 := remB_lt h
    rw [remS_len] at h2
    unfold remB at h
    rw [decide_eq_true h2.1, Bool.true_and, remS_get (by omega)] at h
    exact ⟨h2.1, h2.2, h⟩
  · rintro ⟨h0, h1, h2⟩
    unfold remB
    rw [decide_eq_true h0, Bool.true_and, remS_get (by omega)]
    exact h2
/-- The first k flags are laid. -/
def bitsTo (n s k : Nat) : List Bool := (List.range n).map fun c => decide (c < k) && s.testBit c
theorem bitsTo_zero (n s : Nat) : bitsTo n s 0 = List.replicate n false := by
  refine List.ext_getElem? fun i => ?_
  unfold bitsTo
  rw [List.getElem?_map, List.getElem?_replicate]
  by_cases h : i < n
  · rw [List.getElem?_range h, if_pos h]; rfl
  · rw [List.getElem?_eq_none (by simpa using h), if_neg h]; rfl
theorem bitsTo_all (n s : Nat) : bitsTo n s n = remS n s := by
  unfold bitsTo remS
  refine List.map_congr_left fun c hc => ?_
  rw [decide_eq_true (List.mem_range.1 hc), Bool.true_and]
theorem bitsTo_step {n s k : Nat} (h : k < n) : (bitsTo n s k).set k (s.testBit k) = bitsTo n s (k + 1) := by
  refine List.ext_getElem? fun i => ?_
  unfold bitsTo
  rw [List.getElem?_set, List.getElem?_map, List.getElem?_map, List.length_map, List.length_range]
  by_cases hi : i < n
  · rw [List.getElem?_range hi]
    by_cases e : k = i
    · subst e; simp [h]
    · rw [if_neg e]
      have : decide (i < k + 1) = decide (i < k) := by rw [decide_eq_decide]; omega
      simp [this]
  · rw [List.getElem?_eq_none (by simpa using hi)]
    rw [if_neg (by omega)]
    rfl
/-- The mask without c. -/
theorem mask_sub : ∀ s < 128, ∀ c < 7, s.testBit c = true → 2 ^ c ≤ s ∧ ∀ d < 7, (s - 2 ^ c).testBit d = (s.testBit d && decide (d ≠ c)) := by decide +kernel
theorem mask_one : ∀ c < 7, ∀ d < 7, (2 ^ c).testBit d = decide (d = c) := by decide +kernel
theorem mask_full : ∀ n < 8, ∀ d < n, (2 ^ n - 1).testBit d = true := by decide +kernel
theorem mask_zero : ∀ s < 128, (∀ c < 7, s.testBit c = false) → s = 0 := by decide +kernel
theorem pow_128 : ∀ n < 8, 2 ^ n ≤ 128 ∧ 1 ≤ 2 ^ n ∧ ∀ c < n, 2 ^ c < 2 ^ n := by decide +kernel
def setB (n s : Nat) : Int → Bool := remB (remS n s)
theorem setB_at {n s : Nat} (c : Int) : setB n s c = decide (0 ≤ c ∧ c < n ∧ s.testBit c.toNat = true) := remS_at c
theorem setB_nat {n s c : Nat} (h : c < n) : setB n s c = s.testBit c := by
  rw [setB_at, Bool.eq_iff_iff, decide_eq_true_iff, Int.toNat_natCast]
  exact ⟨fun h => h.2.2, fun g => ⟨by omega, by omega, g⟩⟩
theorem setB_full {n : Nat} (h7 : n ≤ 7) : setB n (2 ^ n - 1) = fun c => decide (0 ≤ c ∧ c < (n : Int)) := by
  funext c
  rw [setB_at, decide_eq_decide]
  constructor
  · exact fun h => ⟨h.1, h.2.1⟩
  · exact fun h => ⟨h.1, h.2, mask_full n (by omega) _ (by omega)⟩
theorem setB_sub {n s c : Nat} (h7 : n ≤ 7) (hs : s < 2 ^ n) (hc : c < n) (hb : s.testBit c = true) : setB n (s - 2 ^ c) = fun d => setB n s d && decide (d ≠ (c : Int)) := by
  have hp := pow_128 n (by omega)
  funext d
  rw [setB_at, setB_at, Bool.eq_iff_iff, Bool.and_eq_true, decide_eq_true_iff, decide_eq_true_iff, decide_eq_true_iff]
  constructor
  · rintro ⟨h0, h1, h2⟩
    rw [(mask_sub s (by omega) c (by omega) hb).2 _ (by omega), Bool.and_eq_true, decide_eq_true_iff] at h2
    exact ⟨⟨h0, h1, h2.1⟩, by omega⟩
  · rintro ⟨⟨h0, h1, h2⟩, h3⟩
    refine ⟨h0, h1, ?_⟩
    rw [(mask_sub s (by omega) c (by omega) hb).2 _ (by omega), h2, Bool.true_and, decide_eq_true_iff]
    omega
theorem setB_one {n c : Nat} (h7 : n ≤ 7) (hc : c < n) : setB n (2 ^ c) = single c := by
  funext d
  unfold single
  rw [setB_at, decide_eq_decide]
  constructor
  · rintro ⟨h0, h1, h2⟩
    rw [mask_one c (by omega) _ (by omega), decide_eq_true_iff] at h2
    omega
  · rintro rfl
    refine ⟨by omega, by omega, ?_⟩
    rw [mask_one c (by omega) _ (by omega), Int.toNat_natCast]
    simp
theorem setB_inj {n s t : Nat} (_h7 : n ≤ 7) (hs : s < 2 ^ n) (ht : t < 2 ^ n) (h : setB n s = setB n t) : s = t := by
  refine Nat.eq_of_testBit_eq fun i => ?_
  by_cases hi : i < n
  · have := congrFun h (i : Int)
    rwa [setB_nat hi, setB_nat hi] at this
  · have hp : 2 ^ n ≤ 2 ^ i := Nat.pow_le_pow_right (by omega) (by omega)
    rw [Nat.testBit_lt_two_pow (by omega), Nat.testBit_lt_two_pow (by omega)]

/-- The table of reached sets while set s is looked at, its candidates in D done. -/
structure RInv (n : Nat) (gs : List Grp) (R : List Bool) (s : Nat) (D : Nat → Prop) : Prop where
  len : R.length = 2 ^ n
  top : R.getD (2 ^ n - 1) false = true
  snd : ∀ t, t < 2 ^ n → R.getD t false = true → t ≠ 0 → Rch n gs (setB n t)
  cmp : ∀ t, t < 2 ^ n → R.getD t false = true → ∀ c, c < n → (s < t ∨ (t = s ∧ D c)) → t ≠ 2 ^ c → Low gs (setB n t) c → R.getD (t - 2 ^ c) false = true
theorem set_getD {R : List Bool} {i j : Nat} {x : Bool} (h : i < R.length) : (R.set i x).getD j false = if i = j then x else R.getD j false := by
  rw [List.getD_eq_getElem?_getD, List.getElem?_set, List.getD_eq_getElem?_getD]
  by_cases e : i = j
  · rw [if_pos e, if_pos e, if_pos h]; rfl
  · rw [if_neg e, if_neg e]
theorem RInv.start {n : Nat} {gs : List Grp} (h7 : n ≤ 7) {D : Nat → Prop} (hD : ∀ c, ¬ D c) : RInv n gs ((List.replicate (2 ^ n) false).set (2 ^ n - 1) true) (2 ^ n - 1) D := by
  have hp := pow_128 n (by omega)
  have hl : 2 ^ n - 1 < (List.replicate (2 ^ n) false).length := by rw [List.length_replicate]; omega
  refine ⟨by simp, by rw [set_getD hl, if_pos rfl], fun t ht h h0 => ?_, fun t ht _ c _ hc => ?_⟩
  · rw [set_getD hl] at h
    split at h
    · next e => rw [← e, setB_full h7]; exact Rch.full
    · rw [List.getD_eq_getElem?_getD, List.getElem?_replicate, if_pos ht] at h
      simp at h
  · rcases hc with hc | hc
    · omega
    · exact absurd hc.2 (hD c)
theorem RInv.skip {n : Nat} {gs : List Grp} {R : List Bool} {s : Nat} {D D' : Nat → Prop} (h : RInv n gs R s D) (h0 : 0 < s) (hr : R.getD s false = false) (hD : ∀ c, ¬ D' c) : RInv n gs R (s - 1) D' := by
  refine ⟨h.len, h.top, h.snd, fun t ht hR c hc hh hne hl => ?_⟩
  by_cases e : t = s
  · rw [e, hr] at hR; simp at hR
  · rcases hh with hh | hh
    · exact h.cmp t ht hR c hc (.inl (by omega)) hne hl
    · exact absurd hh.2 (hD c)
theorem RInv.done {n : Nat} {gs : List Grp} {R : List Bool} {s : Nat} {D D' : Nat → Prop} (h : RInv n gs R s D) (h0 : 0 < s) (hd : ∀ c, c < n → Low gs (setB n s) c → s ≠ 2 ^ c → D c) (hD : ∀ c, ¬ D' c) : RInv n gs R (s - 1) D' := by
  refine ⟨h.len, h.top, h.snd, fun t ht hR c hc hh hne hl => ?_⟩
  by_cases e : t = s
  · subst e; exact h.cmp t ht hR c hc (.inr ⟨rfl, hd c hc hl hne⟩) hne hl
  · rcases hh with hh | hh
    · exact h.cmp t ht hR c hc (.inl (by omega)) hne hl
    · exact absurd hh.2 (hD c)
theorem RInv.no {n : Nat} {gs : List Grp} {R : List Bool} {s : Nat} {D D' : Nat → Prop} (h : RInv n gs R s D) (hD : ∀ c, c < n → D' c → Low gs (setB n s) c → s ≠ 2 ^ c → D c) : RInv n gs R s D' := by
  refine ⟨h.len, h.top, h.snd, fun t ht hR c hc hh hne hl => ?_⟩
  rcases hh with hh | ⟨e, hh⟩
  · exact h.cmp t ht hR c hc (.inl hh) hne hl
  · subst e; exact h.cmp t ht hR c hc (.inr ⟨rfl, hD c hc hh hl hne⟩) hne hl
theorem RInv.yes {n : Nat} {gs : List Grp} {R : List Bool} {s j : Nat} {D D' : Nat → Prop} (h : RInv n gs R s D) (h7 : n ≤ 7) (hs : s < 2 ^ n) (hj : j < n) (hr : R.getD s false = true) (hl : Low gs (setB n s) j) (hD : ∀ c, D' c → D c ∨ c = j) : RInv n gs (R.set (s - 2 ^ j) true) s D' := by
  have hp := pow_128 n (by omega)
  have hb : s.testBit j = true := by have := hl.1; rwa [setB_nat hj] at this
  obtain ⟨m1, m2⟩ := mask_sub s (by omega) j (by omega) hb
  have hpos : 0 < 2 ^ j := Nat.two_pow_pos j
  have hlt : s - 2 ^ j < R.length := by rw [h.len]; omega
  refine ⟨by rw [List.length_set]; exact h.len, ?_, fun t ht hR h0 => ?_, fun t ht hR c hc hh hne2 hlo => ?_⟩
  · rw [set_getD hlt, h.top]; split <;> rfl
  · rw [set_getD hlt] at hR
    split at hR
    · next e =>
      subst e
      rw [setB_sub h7 hs hj hb]
      have hex : ∃ d < 7, (s - 2 ^ j).testBit d = true := by
        refine Classical.byContradiction fun g => h0 (mask_zero _ (by omega) fun d hd => ?_)
        cases hx : (s - 2 ^ j).testBit d with
        | false => rfl
        | true => exact absurd ⟨d, hd, hx⟩ g
      obtain ⟨d, hd, hdb⟩ := hex
      rw [m2 d hd, Bool.and_eq_true, decide_eq_true_iff] at hdb
      have hdn : d < n := by
        refine Classical.byContradiction fun g => ?_
        have hpd : 2 ^ n ≤ 2 ^ d := Nat.pow_le_pow_right (by omega) (by omega)
        rw [Nat.testBit_lt_two_pow (by omega)] at hdb
        simp at hdb
      exact Rch.step (d := (d : Int)) (h.snd s hs hr (by omega)) hl (by rw [setB_nat hdn]; exact hdb.1) (by omega)
    · exact h.snd t ht hR h0
  · have hne : ¬ s - 2 ^ j = t := by omega
    rw [set_getD hlt, if_neg hne] at hR
    rw [set_getD hlt]
    split
    · rfl
    · next e2 =>
      rcases hh with hh | ⟨e, hh⟩
      · exact h.cmp t ht hR c hc (.inl hh) hne2 hlo
      · subst e
        rcases hD c hh with hd | ec
        · exact h.cmp t ht hR c hc (.inr ⟨rfl, hd⟩) hne2 hlo
        · subst ec; exact absurd rfl e2
theorem RInv.all {n : Nat} {gs : List Grp} {R : List Bool} {D : Nat → Prop} (h : RInv n gs R 0 D) (h7 : n ≤ 7) {S : Int → Bool} (hS : Rch n gs S) : ∃ t, t < 2 ^ n ∧ setB n t = S ∧ R.getD t false = true := by
  have hp := pow_128 n (by omega)
  induction hS with
  | full => exact ⟨2 ^ n - 1, by omega, setB_full h7, h.top⟩
  | @step S x d _ hl hd hx ih =>
    obtain ⟨t, ht, e, hR⟩ := ih
    subst e
    have hx0 := hl.1
    rw [setB_at, decide_eq_true_iff] at hx0
    obtain ⟨c, rfl⟩ : ∃ c : Nat, x = c := ⟨x.toNat, by omega⟩
    have hc : c < n := by omega
    rw [Int.toNat_natCast] at hx0
    have hpos : 0 < 2 ^ c := Nat.two_pow_pos c
    obtain ⟨m1, m2⟩ := mask_sub t (by omega) c (by omega) hx0.2.2
    have hne2 : t ≠ 2 ^ c := fun e => by
      subst e
      rw [setB_one h7 hc] at hd
      exact hx (of_decide_eq_true hd)
    exact ⟨t - 2 ^ c, by omega, setB_sub h7 ht hc hx0.2.2, h.cmp t ht hR c hc (.inl (by omega)) hne2 hl⟩
/-- At the end the sets of one tell who can win. -/
theorem RInv.one {n : Nat} {gs : List Grp} {R : List Bool} {D : Nat → Prop} (h : RInv n gs R 0 D) (h7 : n ≤ 7) {c : Nat} (hc : c < n) : R.getD (2 ^ c) false = true ↔ Rch n gs (single c) := by
  have hp := pow_128 n (by omega)
  have hpc := hp.2.2 c hc
  have hpos : 0 < 2 ^ c := Nat.two_pow_pos c
  constructor
  · intro hR
    have := h.snd (2 ^ c) hpc hR (by omega)
    rwa [setB_one h7 hc] at this
  · intro hS
    obtain ⟨t, ht, e, hR⟩ := h.all h7 hS
    rw [← setB_one h7 hc] at e
    rw [← setB_inj h7 ht hpc e]
    exact hR
noncomputable def canB (n : Int) (gs : List Grp) (c : Int) : Bool := @decide (Rch n gs (single c)) (Classical.propDecidable _)
theorem canB_true {n : Int} {gs : List Grp} {c : Int} : canB n gs c = true ↔ Rch n gs (single c) := by unfold canB; exact @decide_eq_true_iff _ (Classical.propDecidable _)
/-- Those of the first k who can win. -/
noncomputable def canTo (n : Nat) (gs : List Grp) (k : Nat) : List Int := ((List.range k).map fun i : Nat => (i : Int)).filter (canB n gs)
noncomputable def possS (n : Nat) (gs : List Grp) : List Int := canTo n gs n
theorem canTo_yes {n : Nat} {gs : List Grp} {k : Nat} (h : Rch n gs (single k)) : canTo n gs (k + 1) = canTo n gs k ++ [(k : Int)] := by
  unfold canTo
  rw [List.range_succ, List.map_append, List.filter_append]
  simp [canB_true.2 h]
theorem canTo_no {n : Nat} {gs : List Grp} {k : Nat} (h : ¬ Rch n gs (single k)) : canTo n gs (k + 1) = canTo n gs k := by
  unfold canTo
  rw [List.range_succ, List.map_append, List.filter_append]
  have : canB n gs k = false := by
    cases g : canB n gs k with
    | false => rfl
    | true => exact absurd (canB_true.1 g) h
  simp [this]
theorem canTo_len (n : Nat) (gs : List Grp) (k : Nat) : (canTo n gs k).length ≤ k := by
  unfold canTo
  exact Nat.le_trans (List.length_filter_le _ _) (by simp)
theorem mem_poss {n : Nat} {gs : List Grp} {c : Int} : c ∈ possS n gs ↔ 0 ≤ c ∧ c < n ∧ Rch n gs (single c) := by
  unfold possS canTo
  rw [List.mem_filter, canB_true, List.mem_map]
  constructor
  · rintro ⟨⟨i, hi, rfl⟩, h⟩
    have := List.mem_range.1 hi
    exact ⟨by omega, by omega, h⟩
  · rintro ⟨h0, h1, h⟩
    exact ⟨⟨c.toNat, List.mem_range.2 (by omega), by omega⟩, h⟩
theorem poss_sorted (n : Nat) (gs : List Grp) : (possS n gs).Pairwise (· < ·) := (range_sorted n).filter _
theorem poss_nil_gs (n : Nat) (gs : List Grp) : (possS n gs).Nodup := sorted_nodup (poss_sorted n gs)

end Go.Proofs.Nums

/- Plain facts for the reference's count: sorted lists, kept candidates, sizes, the lowest. -/
namespace Go.Proofs.Nums

theorem sorted_ext : ∀ {a b : List Int}, a.Pairwise (· < ·) → b.Pairwise (· < ·) → (∀ x, x ∈ a ↔ x ∈ b) → a = b
  | [], [], _, _, _ => rfl
  | [], y :: b, _, _, h => absurd ((h y).2 (List.mem_cons_self ..)) (List.not_mem_nil)
  | x :: a, [], _, _, h => absurd ((h x).1 (List.mem_cons_self ..)) (List.not_mem_nil)
  | x :: a, y :: b, ha, hb, h => by
    obtain ⟨ha1, ha2⟩ := List.pairwise_cons.1 ha
    obtain ⟨hb1, hb2⟩ := List.pairwise_cons.1 hb
    have e : x = y := by
      have h1 := (h x).1 (List.mem_cons_self ..)
      have h2 := (h y).2 (List.mem_cons_self ..)
      rw [List.mem_cons] at h1 h2
      rcases h1 with h1 | h1
      · exact h1
      · rcases h2 with h2 | h2
        · exact h2.symm
        · have := hb1 x h1; have := ha1 y h2; omega
    subst e
    rw [sorted_ext ha2 hb2 fun z => ?_]
    have hz := h z
    rw [List.mem_cons, List.mem_cons] at hz
    constructor
    · intro hm
      rcases hz.1 (.inr hm) with e | e
      · have := ha1 z hm; omega
      · exact e
    · intro hm
      rcases hz.2 (.inr hm) with e | e
      · have := hb1 z hm; omega
      · exact e
theorem riseTo_all {l : List Int} {n : Nat} (hs : l.Pairwise (· < ·)) (hr : ∀ x ∈ l, 0 ≤ x ∧ x < (n : Int)) : riseTo l n = l := by
  refine sorted_ext ((range_sorted n).filter _) hs fun x => ?_
  unfold riseTo
  rw [List.mem_filter, List.mem_map]
  constructor
  · rintro ⟨_, h⟩
    exact hasB_true.1 h
  · intro h
    have := hr x h
    exact ⟨⟨x.toNat, List.mem_range.2 (by omega), by omega⟩, hasB_true.2 h⟩
def keptS (rem : List Bool) (p : List Int) : List Int := p.filter (remB rem)
theorem kept_none {rem : List Bool} {p : List Int} (h : (keptS rem p).length = 0) : p.find? (remB rem) = none := by
  have e : keptS rem p = [] := List.eq_nil_of_length_eq_zero h
  rw [← List.head?_filter]
  unfold keptS at e
  rw [e]; rfl
theorem kept_some {rem : List Bool} {p : List Int} (h : 0 < (keptS rem p).length) : p.find? (remB rem) = some ((keptS rem p).getD 0 0) := by
  rw [← List.head?_filter]
  show (keptS rem p).head? = _
  cases e : keptS rem p with
  | nil => rw [e] at h; simp at h
  | cons a t => rfl
theorem kept_step {rem : List Bool} {p : List Int} {k : Nat} {y : Int} (h : k < p.length) (hy : p.getD k 0 = y) : keptS rem (p.take (k + 1)) = keptS rem (p.take k) ++ (if remB rem y = true then [y] else []) := by
  unfold keptS
  rw [take_snoc_i h, hy, List.filter_append]
  cases e : remB rem y <;> simp [e]
theorem kept_len (rem : List Bool) (p : List Int) : (keptS rem p).length ≤ p.length := List.length_filter_le _ _
theorem remB_nat {l : List Bool} {k : Nat} : remB l k = l.getD k false := by simp [remB]
theorem low_at {gs : List Grp} {rem : List Bool} {i : Nat} (hi : i < rem.length) : hasB (lowS gs rem) i = true ↔ rem.getD i false = true ∧ ∀ j, j < rem.length → rem.getD j false = true → ¬ (votesS gs rem).getD j 0 < (votesS gs rem).getD i 0 := by
  have hv : ∀ j, j < rem.length → (votesS gs rem).getD j 0 = wt (remB rem) gs j := fun j hj => by
    have := votes_get (gs := gs) (rem := rem) (c := (j : Int)) (by omega) (by omega)
    rwa [Int.toNat_natCast] at this
  rw [hasB_true, mem_low]
  unfold Low
  rw [remB_nat]
  constructor
  · rintro ⟨h1, h2⟩
    refine ⟨h1, fun j hj hr => ?_⟩
    have := h2 j (by rw [remB_nat]; exact hr)
    rw [hv j hj, hv i hi]
    omega
  · rintro ⟨h1, h2⟩
    refine ⟨h1, fun d hd => ?_⟩
    have hl := remB_lt hd
    obtain ⟨j, rfl⟩ : ∃ j : Nat, d = j := ⟨d.toNat, by omega⟩
    rw [remB_nat] at hd
    have := h2 j (by omega) hd
    rw [hv j (by omega), hv i hi] at this
    omega
theorem low_all (gs : List Grp) (rem : List Bool) : riseTo (lowS gs rem) rem.length = lowS gs rem :=
  riseTo_all (low_sorted gs rem) fun _ hx => remB_lt (mem_low.1 hx).1
theorem low_len (gs : List Grp) (rem : List Bool) : (lowS gs rem).length ≤ rem.length := by
  rw [← low_all]
  exact riseTo_len _ _
theorem alive_rise (rem : List Bool) : riseTo (aliveS rem) rem.length = aliveS rem :=
  riseTo_all (alive_sorted rem) fun _ hx => remB_lt (mem_alive.1 hx)
/-- Whether c is among the lowest, as far as the first j are looked at. -/
def leastB (V : List Int) (rem : List Bool) (c : Nat) : Nat → Bool
  | 0 => rem.getD c false
  | j + 1 => leastB V rem c j && (!(rem.getD j false) || decide (V.getD c 0 ≤ V.getD j 0))
theorem leastB_iff {V : List Int} {rem : List Bool} {c : Nat} : ∀ {j : Nat}, leastB V rem c j = true ↔ rem.getD c false = true ∧ ∀ d, d < j → rem.getD d false = true → ¬ V.getD d 0 < V.getD c 0
  | 0 => by
    unfold leastB
    exact ⟨fun h => ⟨h, fun d hd => absurd hd (Nat.not_lt_zero d)⟩, fun h => h.1⟩
  | j + 1 => by
    unfold leastB
    rw [Bool.and_eq_true, leastB_iff (j := j), Bool.or_eq_true, Bool.not_eq_true', decide_eq_true_iff]
    constructor
    · rintro ⟨⟨h1, h2⟩, h3⟩
      refine ⟨h1, fun d hd hr => ?_⟩
      by_cases e : d = j
      · subst e
        rcases h3 with h3 | h3
        · rw [hr] at h3; simp at h3
        · omega
      · exact h2 d (by omega) hr
    · rintro ⟨h1, h2⟩
      refine ⟨⟨h1, fun d hd => h2 d (by omega)⟩, ?_⟩
      cases hr : rem.getD j false with
      | false => exact .inl rfl
      | true => exact .inr (by have := h2 j (by omega) hr; omega)
theorem least_low {gs : List Grp} {rem : List Bool} {c : Nat} (hc : c < rem.length) : leastB (votesS gs rem) rem c rem.length = true ↔ Low gs (remB rem) c := by
  rw [leastB_iff, ← low_at hc, hasB_true, mem_low]
theorem and_bit : ∀ s < 128, ∀ k < 7, (bits BinOp.and IntKind.i64 (((s : Nat) : Int) / 2 ^ k) 1 == 1) = s.testBit k := by decide +kernel
theorem andnot_bit : ∀ s < 128, ∀ k < 7, s.testBit k = true → bits BinOp.andNot IntKind.i64 ((s : Nat) : Int) (2 ^ k) = ((s - 2 ^ k : Nat) : Int) := by decide +kernel
def allS (n : Nat) : List Bool := List.replicate n true

end Go.Proofs.Nums

/- The reference: in, Kept, Size, Members. -/
namespace Go.Proofs.Ytbnhgmikegdppaa
open Go.RowKit Go.Proofs.Kit Go.Proofs.Nums

set_option maxHeartbeats 1000000 in
theorem in_c {v : Value} {l : List Bool} {w : World} (hv : BoolsAt w v l) (x : Int) :
    Calls Try.prog 91 #[v, .int .i64 x] w fun e w' => e = .returned (.bool (remB l x)) ∧ w = w' := by
  have H := Lib.hid hv
  have hlm := hv.len
  obtain ⟨p, c, rfl⟩ := hv.shape
  clear hv
  by_cases h0 : x < 0
  · rw [show remB l x = false by unfold remB; rw [decide_eq_false (by omega)]; rfl]
    have hz : decide ((0 : Int) ≤ x) = false := decide_eq_false (by omega)
    obtain ⟨len, hlen⟩ : ∃ n, l.length = n := ⟨_, rfl⟩
    rw [hlen] at hlm ⊢
    clear hlen H
    go_enter Try.func91, Try.ntmps91
    go_wp2_with fail
    go_ret
    exact ⟨rfl, rfl⟩
  have hz0 : decide ((0 : Int) ≤ x) = true := decide_eq_true (by omega)
  have hz1 : (0 : Int) ≤ x := by omega
  by_cases h : x < l.length
  · obtain ⟨k, rfl⟩ : ∃ k : Nat, x = k := ⟨x.toNat, by omega⟩
    obtain ⟨b, off, e, i1, i2, hc⟩ := H.out.cellAt k (by omega)
    subst e
    rw [← remB_at] at hc
    obtain ⟨r, hr⟩ : ∃ r, remB l k = r := ⟨_, rfl⟩
    rw [hr] at hc ⊢
    obtain ⟨len, hlen⟩ : ∃ n, l.length = n := ⟨_, rfl⟩
    rw [hlen] at hlm h i1 ⊢
    clear hr hlen H h0
    go_enter Try.func91, Try.ntmps91
    go_wp2_with fail
    go_ret
    exact ⟨rfl, rfl⟩
  · rw [remB_ge (by omega)]
    obtain ⟨len, hlen⟩ : ∃ n, l.length = n := ⟨_, rfl⟩
    rw [hlen] at hlm h ⊢
    clear hlen H h0
    have hz : ¬ x < (len : Int) := h
    go_enter Try.func91, Try.ntmps91
    go_wp2_with fail
    go_ret
    exact ⟨rfl, rfl⟩

set_option maxHeartbeats 2000000 in
theorem kept_c {vp vr : Value} {p : List Int} {rem : List Bool} {w : World} (hp : IntsAt w vp p) (hr : BoolsAt w vr rem) (hl : p.length ≤ 1000) :
    Calls Try.prog 90 #[vp, vr] w fun e w' => ∃ v', e = .returned v' ∧ IntsAt w' v' (keptS rem p) ∧ Fresh w.heap.size v' ∧ Below w.heap.size w w' := by
  have H := Lib.hid hp
  have IN := Lib.hid (fun wq (h : Below w.heap.size w wq) x => in_c (hr.keep h) x)
  obtain ⟨b, c, rfl⟩ := hp.shape
  obtain ⟨pr, cr, rfl⟩ := hr.shape
  obtain ⟨len, hlen⟩ : ∃ n, p.length = n := ⟨_, rfl⟩
  obtain ⟨rl, hrl⟩ : ∃ n, rem.length = n := ⟨_, rfl⟩
  have HN := Lib.hid hlen
  rw [hlen] at H hl ⊢
  rw [hrl] at IN ⊢
  clear hp hr hlen hrl
  go_enter Try.func90, Try.ntmps90
  go_wp2_with fail
  go_loopw [5, 6] (fun ov iv wr => ∃ k m : Nat, k ≤ len ∧ iv = .int .i64 k ∧ wr.ownsRow w.heap.size 3 1 ov m ((keptS rem (p.take k)).map (Value.int .i64)) ∧ Below w.heap.size w wr) (fun _ iv _ => len - (intOf iv).toNat)
  case atStart => exact ⟨0, 0, by omega, rfl, (World.ownsRow_nil _ _ _ _ : w.ownsRow w.heap.size 3 1 (.slice none 0 0) 0 []), Below.refl _ _⟩
  case round =>
    obtain ⟨k, m, hk, rfl, hown, hbel⟩ := hrel
    by_cases hlt : k < len
    · have hltz : (k : Int) < (len : Int) := by omega
      have hm2 : m ≤ k := by
        have h1 := hown.1
        have h2 := kept_len rem (p.take k)
        rw [List.length_map] at h1
        rw [List.length_take] at h2
        omega
      obtain ⟨bb, off, hp0, hc1, hc2, hcell⟩ := (H.out.keep hbel).cellAt k (by rw [HN.out]; exact hlt)
      subst hp0
      obtain ⟨y, hy⟩ : ∃ y, p.getD k 0 = y := ⟨_, rfl⟩
      rw [hy] at hcell
      have hst := kept_step (rem := rem) (by rw [HN.out]; exact hlt) hy
      have HA := Lib.hid (IN.out wr hbel y)
      cases hb : remB rem y
      · rw [hb] at HA hst
        have HR : Hid (keptS rem (p.take (k + 1)) = keptS rem (p.take k)) := Lib.hid (by rw [hst]; simp)
        clear hb hst hy
        go_wp2_with (go_at_call 91; ((with_reducible refine (HA.out).mono ?_); rintro e w1 ⟨rfl, rfl⟩))
        go_roundw
        case rel => exact ⟨k + 1, m, by omega, by go_num, by rw [HR.out]; exact hown, hbel⟩
        case measure => simp [intOf] <;> omega
      · rw [hb] at HA hst
        have HR : Hid (keptS rem (p.take (k + 1)) = keptS rem (p.take k) ++ [y]) := Lib.hid (by rw [hst]; simp)
        clear hb hst hy
        go_wp2_with (first
          | (go_at_call 91; ((with_reducible refine (HA.out).mono ?_); rintro e w1 ⟨rfl, rfl⟩))
          | (at_builtin; go_must (refine append_one erI rfl rfl hown rfl rfl rfl (by simp [Value.oneCell']) (by omega) (by omega) hbel.size ?_); intro v' w1 hown1 _ hb1 hne1))
        go_roundw
        case rel =>
          refine ⟨k + 1, m + 1, by omega, by go_num, ?_, hbel.trans hb1⟩
          rw [HR.out, List.map_append]
          exact hown1
        case measure => simp [intOf] <;> omega
    · obtain rfl : len = k := by omega
      have HI : Hid (IntsAt wr u5 (keptS rem p)) := Lib.hid (by have := ints_owned hown; rwa [List.take_of_length_le (by rw [HN.out]; exact Nat.le_refl _)] at this)
      have HF := Lib.hid (Fresh.owned hown)
      clear hown
      go_wp2_with fail
      go_ret
      exact ⟨_, rfl, HI.out, HF.out, hbel⟩

set_option maxHeartbeats 1000000 in
theorem size_c {v : Value} {rem : List Bool} {w : World} (hv : BoolsAt w v rem) (h7 : rem.length ≤ 7) :
    Calls Try.prog 28 #[v] w fun e w' => e = .returned (.int .i64 ((aliveS rem).length : Nat)) ∧ w = w' := by
  have H := Lib.hid hv
  obtain ⟨p, c, rfl⟩ := hv.shape
  obtain ⟨len, hlen⟩ : ∃ n, rem.length = n := ⟨_, rfl⟩
  have HN := Lib.hid hlen
  rw [hlen] at H h7 ⊢
  clear hv hlen
  go_enter Try.func28, Try.ntmps28
  go_wp2_with fail
  go_loop [3, 4] (fun sv iv => ∃ k m : Nat, k ≤ len ∧ m ≤ k ∧ iv = .int .i64 k ∧ sv = .int .i64 m ∧ Hid ((aliveTo rem k).length = m)) (fun _ iv => len - (intOf iv).toNat)
  case atStart => exact ⟨0, 0, by omega, by omega, rfl, rfl, Lib.hid rfl⟩
  case round =>
    obtain ⟨k, m, hk, hm, rfl, rfl, hI⟩ := hrel
    by_cases hlt : k < len
    · have hltz : (k : Int) < (len : Int) := by omega
      obtain ⟨bb, off, hp0, hc1, hc2, hcell⟩ := H.out.cellAt k (by rw [HN.out]; exact hlt)
      subst hp0
      rw [← remB_at] at hcell
      cases hb : remB rem k
      · rw [hb] at hcell
        have HR : Hid ((aliveTo rem (k + 1)).length = m) := Lib.hid (by rw [aliveTo_no hb]; exact hI.out)
        clear hb
        go_wp2_with fail
        go_round
        case rel => exact ⟨k + 1, m, by omega, by omega, by go_num, rfl, HR⟩
        case measure => simp [intOf] <;> omega
      · rw [hb] at hcell
        have HR : Hid ((aliveTo rem (k + 1)).length = m + 1) := Lib.hid (by rw [aliveTo_yes hb, List.length_append, hI.out]; rfl)
        clear hb
        go_wp2_with fail
        go_round
        case rel => exact ⟨k + 1, m + 1, by omega, by omega, by go_num, by go_num, HR⟩
        case measure => simp [intOf] <;> omega
    · obtain rfl : len = k := by omega
      have HX : Hid (m = (aliveS rem).length) := Lib.hid (by have := hI.out; rw [← HN.out, aliveTo_all] at this; exact this.symm)
      go_wp2_with fail
      go_ret
      exact ⟨by rw [HX.out]; rfl, rfl⟩

set_option maxHeartbeats 2000000 in
theorem members_c (n s : Nat) (h1 : 1 ≤ n) (h7 : n ≤ 7) (hs : s < 128) (w : World) :
    Calls Try.prog 74 #[.int .i64 n, .int .i64 s] w fun e w' => ∃ g, e = .returned (.slice (some ⟨g, 0, none⟩) n n) ∧ OwnBool w' g g n (remS n s) ∧ w.heap.size ≤ g ∧ Below w.heap.size w w' := by
  go_enter Try.func74, Try.ntmps74
  go_wp2_with (at_make; go_must (refine make_any erB rfl rfl rfl rfl (by omega) (by omega) (by omega) ?_); intro w4 hown4 hb4; rw [show ((n : Int)).toNat = n by omega] at hown4 ⊢; have own4 := OwnBool.made hown4)
  obtain ⟨G, hG⟩ : ∃ G, w.heap.size = G := ⟨_, rfl⟩
  have HG := Lib.hid hG
  rw [hG] at own4 hb4 ⊢
  have own4 := Lib.hid own4
  clear hown4 hG
  go_loopw [6] (fun iv wq => ∃ k : Nat, k ≤ n ∧ iv = .int .i64 k ∧ OwnBool wq G G n (bitsTo n s k) ∧ Below G w wq) (fun iv _ => n - (intOf iv).toNat)
  case atStart => exact ⟨0, by omega, rfl, by rw [bitsTo_zero]; exact own4.out, hb4⟩
  case round =>
    obtain ⟨k, hk, rfl, hO4, hbel4⟩ := hrel
    by_cases hlt : k < n
    · have hltz : (k : Int) < (n : Int) := by omega
      have hc4 := hO4.cell hlt
      have hf4 := hO4.free k
      have hp4 := hO4.put k (s.testBit k)
      rw [bitsTo_step hlt] at hp4
      have hbit := and_bit s (by omega) k (by omega)
      rw [← hbit] at hp4
      have hp4 := Lib.hid hp4
      have hwu : IntKind.u64.wrap (k : Int) = k := wu64 (by omega) (by omega)
      clear hbit
      go_wp2_with fail
      go_roundw
      case rel => exact ⟨k + 1, by omega, by go_num, hp4.out.1, hbel4.trans hp4.out.2⟩
      case measure => simp [intOf] <;> omega
    · obtain rfl : n = k := by omega
      rw [bitsTo_all] at hO4
      have HO := Lib.hid hO4
      clear hO4
      go_wp2_with fail
      go_ret
      exact ⟨G, rfl, HO.out, by rw [HG.out]; exact Nat.le_refl _, by rw [HG.out]; exact hbel4⟩

end Go.Proofs.Ytbnhgmikegdppaa

/- The reference: Valid, Pile, First, Lowest. -/
namespace Go.Proofs.Ytbnhgmikegdppaa
open Go.RowKit Go.Proofs.Kit Go.Proofs.Nums

set_option maxRecDepth 100000 in
set_option maxHeartbeats 4000000 in
theorem ballot_q {v : Value} {l : List Int} {w : World} (hv : IntsAt w v l) (n : Int) :
    Calls Try.prog 63 #[.int .i64 n, v] w fun e w' => e = .returned (.bool (balS n l)) ∧ ∃ m, w' = w.drewN m := by
  have H := Lib.hid hv
  have hlm := hv.len
  obtain ⟨p, c, rfl⟩ := hv.shape
  have hcap : l.length ≤ c := by
    obtain ⟨p', cap, e, h1, _⟩ := hv
    simp only [Value.slice.injEq] at e
    obtain ⟨_, _, rfl⟩ := e
    rw [List.length_map] at h1; exact h1
  obtain ⟨len, hlen⟩ : ∃ n, l.length = n := ⟨_, rfl⟩
  have HN := Lib.hid hlen
  rw [hlen] at hlm H hcap ⊢
  clear hv hlen
  obtain ⟨r, hr⟩ : ∃ r, balS n l = r := ⟨_, rfl⟩
  rw [hr]
  have HRT : Hid (BalP n l → r = true) := Lib.hid (fun h => by rw [← hr]; unfold balS; exact decide_eq_true h)
  have HRF : Hid (¬ BalP n l → r = false) := Lib.hid (fun h => by rw [← hr]; unfold balS; exact decide_eq_false h)
  clear hr
  go_enter Try.func63, Try.ntmps63
  go_wp2_with fail
  go_loopw [5] (fun iv wr => ∃ k : Nat, k ≤ len ∧ iv = .int .i64 k ∧ (∃ m, wr = w.drewN m) ∧ Hid (BalP n (l.take k))) (fun iv _ => len - (intOf iv).toNat)
  case atStart => exact ⟨0, by omega, rfl, ⟨0, rfl⟩, Lib.hid ⟨fun c hc => by simp at hc, by simp⟩⟩
  case round =>
    obtain ⟨k, hk, rfl, ⟨mq, hmq⟩, hP⟩ := hrel
    have HMQ := Lib.hid hmq
    have hbel : Below w.heap.size w wr := by rw [hmq]; exact below_drewN (Below.refl _ _) mq
    clear hmq
    by_cases hlt : k < len
    · have hltz : (k : Int) < (len : Int) := by omega
      obtain ⟨bb, off, hp0, hc1, hc2, hcell⟩ := (H.out.keep hbel).cellAt k (by rw [HN.out]; exact hlt)
      subst hp0
      obtain ⟨y, hy⟩ : ∃ y, l.getD k 0 = y := ⟨_, rfl⟩
      rw [hy] at hcell
      have HY := Lib.hid hy
      clear hy
      by_cases y0 : y < 0
      · have HX : Hid (r = false) := Lib.hid (HRF.out (bal_no_range (by rw [HN.out]; exact hlt) HY.out (by omega)))
        have d0 : decide (y < 0) = true := by rw [decide_eq_true_iff]; exact y0
        go_wp2_with fail
        go_quiet (fail)
        all_goals
          go_wp2_with fail
          go_ret
          exact ⟨ret_bb HX.out.symm, _, by rw [HMQ.out, World.drewN_drewN]⟩
      · by_cases y1 : n ≤ y
        · have HX : Hid (r = false) := Lib.hid (HRF.out (bal_no_range (by rw [HN.out]; exact hlt) HY.out (by omega)))
          have d0 : decide (y < 0) = false := by rw [decide_eq_false_iff_not]; exact y0
          have d1 : decide (n ≤ y) = true := by rw [decide_eq_true_iff]; exact y1
          go_wp2_with fail
          go_quiet (fail)
          all_goals
            go_wp2_with fail
            go_ret
            exact ⟨ret_bb HX.out.symm, _, by rw [HMQ.out, World.drewN_drewN]⟩
        · have d0 : decide (y < 0) = false := by rw [decide_eq_false_iff_not]; exact y0
          have d1 : decide (n ≤ y) = false := by rw [decide_eq_false_iff_not]; exact y1
          have HA : Hid (∀ q, Calls Try.prog 21 #[.slice (some ⟨bb, off, none⟩) k c, .int .i64 y] (wr.drewN q) fun e w'' => e = .returned (.bool (hasB (l.take k) y)) ∧ w'' = wr.drewN q) := Lib.hid (fun q => (has_c ((H.out.keep (below_drewN hbel q)).cutTo (by rw [HN.out]; omega)) y).mono fun _ _ ⟨h1, h2⟩ => ⟨h1, h2.symm⟩)
          have S0 : Hid (wr.drew.cell? ⟨bb, off + k, none⟩ = some (.int .i64 y)) := Lib.hid hcell
          have hbD := hbel.drew
          have kc : (k : Int) ≤ (c : Int) := by omega
          have kc0 : (0 : Int) ≤ (k : Int) := by omega
          cases hb : hasB (l.take k) y
          · rw [hb] at HA
            have HX : Hid (BalP n (l.take (k + 1))) := Lib.hid (BalP.snoc (by rw [HN.out]; exact hlt) HY.out hP.out (by omega) (by omega) hb)
            clear hb
            go_wp2_with fail
            go_quiet ((go_at_call 21; exact Calls.quiet_of_same (HA.out _)))
            all_goals
              go_wp2_with fail
              go_roundw
              case rel => exact ⟨k + 1, by omega, by go_num, ⟨_, by rw [HMQ.out, World.drewN_drewN]⟩, HX⟩
              case measure => simp [intOf] <;> omega
          · rw [hb] at HA
            have HX : Hid (r = false) := Lib.hid (HRF.out (bal_no_dup (by rw [HN.out]; exact hlt) HY.out hb))
            clear hb
            go_wp2_with fail
            go_quiet ((go_at_call 21; exact Calls.quiet_of_same (HA.out _)))
            all_goals
              go_wp2_with fail
              go_ret
              exact ⟨ret_bb HX.out.symm, _, by rw [HMQ.out, World.drewN_drewN]⟩
    · have hltz : ¬ (k : Int) < (len : Int) := by omega
      have HX : Hid (r = true) := Lib.hid (HRT.out (by have := hP.out; rwa [List.take_of_length_le (by rw [HN.out]; omega)] at this))
      go_wp2_with fail
      go_ret
      exact ⟨ret_bb HX.out.symm, mq, HMQ.out⟩

set_option maxRecDepth 100000 in
set_option maxHeartbeats 4000000 in
theorem less_q {va vb : Value} {a b : List Int} {w : World} (ha : IntsAt w va a) (hb : IntsAt w vb b) :
    Calls Try.prog 42 #[va, vb] w fun e w' => e = .returned (.bool (ltL a b)) ∧ ∃ m, w' = w.drewN m := by
  have HA := Lib.hid ha
  have HB := Lib.hid hb
  have ham := ha.len
  have hbm := hb.len
  obtain ⟨p, c, rfl⟩ := ha.shape
  obtain ⟨p', c', rfl⟩ := hb.shape
  obtain ⟨na, hna⟩ : ∃ n, a.length = n := ⟨_, rfl⟩
  obtain ⟨nb, hnb⟩ : ∃ n, b.length = n := ⟨_, rfl⟩
  have LA := Lib.hid hna
  have LB := Lib.hid hnb
  obtain ⟨r, hr⟩ : ∃ r, ltL a b = r := ⟨_, rfl⟩
  have HR := Lib.hid hr
  rw [hr]
  rw [hna] at ham HA ⊢
  rw [hnb] at hbm HB ⊢
  clear ha hb hna hnb hr
  go_enter Try.func42, Try.ntmps42
  go_wp2_with fail
  go_loopw [5] (fun iv wr => ∃ k : Nat, k ≤ na ∧ k ≤ nb ∧ iv = .int .i64 k ∧ (∃ m, wr = w.drewN m) ∧ Hid (a.take k = b.take k)) (fun iv _ => na - (intOf iv).toNat)
  case atStart => exact ⟨0, by omega, by omega, rfl, ⟨0, rfl⟩, Lib.hid rfl⟩
  case round =>
    obtain ⟨k, hka, hkb, rfl, ⟨mq, hmq⟩, hP⟩ := hrel
    have HMQ := Lib.hid hmq
    have hbel : Below w.heap.size w wr := by rw [hmq]; exact below_drewN (Below.refl _ _) mq
    clear hmq
    by_cases h1 : k < na
    · have z1 : (k : Int) < (na : Int) := by omega
      by_cases h2 : k < nb
      · have z2 : (k : Int) < (nb : Int) := by omega
        obtain ⟨b1, o1, e1, i1, i2, hc1⟩ := (HA.out.keep hbel).cellAt k (by rw [LA.out]; exact h1)
        obtain ⟨b2, o2, e2, j1, j2, hc2⟩ := (HB.out.keep hbel).cellAt k (by rw [LB.out]; exact h2)
        subst e1; subst e2
        obtain ⟨x, hx⟩ : ∃ x, a.getD k 0 = x := ⟨_, rfl⟩
        obtain ⟨y, hy⟩ : ∃ y, b.getD k 0 = y := ⟨_, rfl⟩
        rw [hx] at hc1
        rw [hy] at hc2
        have hd1 : wr.drew.cell? ⟨b1, o1 + k, none⟩ = some (.int .i64 x) := hc1
        have hd2 : wr.drew.cell? ⟨b2, o2 + k, none⟩ = some (.int .i64 y) := hc2
        by_cases hxy : x = y
        · have HX : Hid (a.take (k + 1) = b.take (k + 1)) := Lib.hid (take_same (by rw [LA.out]; exact h1) (by rw [LB.out]; exact h2) hP.out (by rw [hx, hy, hxy]))
          have q1 : (x == y) = true := by rw [hxy]; simp
          have q2 : (x != y) = false := by rw [hxy]; simp
          clear hx hy hxy
          go_wp2_with fail
          go_quiet (fail)
          all_goals
            go_wp2_with fail
            go_roundw
            case rel => exact ⟨k + 1, by omega, by omega, by go_num, ⟨_, by rw [HMQ.out, World.drewN_drewN]⟩, HX⟩
            case measure => simp [intOf] <;> omega
        · have HX : Hid (decide (x < y) = r) := Lib.hid (by rw [← HR.out, lt_at (by rw [LA.out]; exact h1) (by rw [LB.out]; exact h2) hP.out (by rw [hx, hy]; exact hxy), hx, hy])
          have q1 : (x == y) = false := by rw [beq_eq_false_iff_ne]; exact hxy
          have q2 : (x != y) = true := by simpa using hxy
          clear hx hy hxy
          obtain ⟨dd, hdd⟩ : ∃ dd, decide (x < y) = dd := ⟨_, rfl⟩
          rw [hdd] at HX
          go_wp2_with fail
          go_quiet (fail)
          all_goals
            go_wp2_with fail
            go_quiet (fail)
            all_goals
              go_wp2_with fail
              go_ret
              exact ⟨ret_bb (by first | exact HX.out | (rw [hdd]; exact HX.out)), ⟨_, by rw [HMQ.out, World.drewN_drewN, World.drewN_drewN]⟩⟩
      · have z2 : ¬ (k : Int) < (nb : Int) := by omega
        have HX : Hid (decide (na < nb) = r) := Lib.hid (by
          rw [← HR.out, lt_end (by rw [LA.out]; omega) (by rw [LB.out]; omega) hP.out (.inr (by rw [LB.out]; omega)), LA.out, LB.out])
        go_wp2_with fail
        go_ret
        exact ⟨ret_bb HX.out, mq, HMQ.out⟩
    · have z1 : ¬ (k : Int) < (na : Int) := by omega
      have HX : Hid (decide (na < nb) = r) := Lib.hid (by
        rw [← HR.out, lt_end (by rw [LA.out]; omega) (by rw [LB.out]; omega) hP.out (.inl (by rw [LA.out]; omega)), LA.out, LB.out])
      go_wp2_with fail
      go_ret
      exact ⟨ret_bb HX.out, mq, HMQ.out⟩

theorem valid_range {n : Int} {gs : List Grp} (h : ¬ (1 ≤ n ∧ n ≤ 7)) : okS n gs = false := by
  unfold okS
  by_cases h1 : 1 ≤ n
  · rw [decide_eq_false (show ¬ n ≤ 7 by omega), Bool.and_false, Bool.false_and]
  · rw [decide_eq_false h1, Bool.false_and, Bool.false_and]
theorem valid_in {n : Int} {gs : List Grp} (h1 : 1 ≤ n) (h7 : n ≤ 7) : okS n gs = pileS n gs := by
  unfold okS
  rw [decide_eq_true h1, decide_eq_true h7, Bool.true_and, Bool.true_and]

set_option maxRecDepth 100000 in
set_option maxHeartbeats 4000000 in
theorem rvalid_c {v : Value} {gs : List Grp} {w : World} (hv : PileAt w v gs) (n : Int) :
    Calls Try.prog 44 #[.int .i64 n, v] w fun e w' => e = .returned (.bool (okS n gs)) ∧ Below w.heap.size w w' := by
  have H := Lib.hid hv
  have hlm := SliceOf.len hv
  obtain ⟨p, c, rfl⟩ := hv.shp
  obtain ⟨len, hlen⟩ : ∃ n, gs.length = n := ⟨_, rfl⟩
  have HN := Lib.hid hlen
  rw [hlen] at hlm H ⊢
  clear hv hlen
  by_cases n1 : n < 1
  · rw [valid_range (by omega)]
    have d1 : decide (n < 1) = true := decide_eq_true n1
    go_enter Try.func44, Try.ntmps44
    go_wp2_with fail
    go_ret
    exact ⟨rfl, Below.refl _ _⟩
  have d1 : decide (n < 1) = false := decide_eq_false n1
  by_cases n7 : 7 < n
  · rw [valid_range (by omega)]
    have d2 : decide (7 < n) = true := decide_eq_true n7
    go_enter Try.func44, Try.ntmps44
    go_wp2_with fail
    go_ret
    exact ⟨rfl, Below.refl _ _⟩
  have d2 : decide (7 < n) = false := decide_eq_false n7
  rw [valid_in (by omega) (by omega)]
  obtain ⟨r, hr⟩ : ∃ r, pileS n gs = r := ⟨_, rfl⟩
  rw [hr]
  have HRT : Hid (PileP n gs → r = true) := Lib.hid (fun h => by rw [← hr]; exact pile_true.2 h)
  have HRF : Hid (¬ PileP n gs → r = false) := Lib.hid (fun h => by rw [← hr]; exact pile_false h)
  clear hr
  go_enter Try.func44, Try.ntmps44
  go_wp2_with fail
  go_loopw [5, 6] (fun rv iv wr => ∃ k : Nat, ∃ s : Int, k ≤ len ∧ iv = .int .i64 k ∧ rv = .int .i64 s ∧ Below w.heap.size w wr ∧ Hid (s = 100000 - totS (gs.take k)) ∧ Hid (PileP n (gs.take k)) ∧ 0 ≤ s ∧ s ≤ 100000) (fun _ iv _ => len - (intOf iv).toNat)
  case atStart => exact ⟨0, 100000, by omega, rfl, rfl, Below.refl _ _, Lib.hid rfl, Lib.hid (PileP.nil _), by omega, by omega⟩
  case round =>
    obtain ⟨k, s, hk, rfl, rfl, hbel, hS, hP, s0, s1⟩ := hrel
    by_cases hlt : k < len
    · have hltz : (k : Int) < (len : Int) := by omega
      obtain ⟨g, hg⟩ : ∃ g, gs.getD k g0 = g := ⟨_, rfl⟩
      obtain ⟨bb, off, q, m, d, hp0, hc1, hc2, cl0, cl1, HI, hm⟩ := (H.out.keep hbel).cellAt (by rw [HN.out]; exact hlt) hg
      subst hp0
      obtain ⟨y, hy⟩ : ∃ y, g.n = y := ⟨_, rfl⟩
      rw [hy] at cl1
      have HI := Lib.hid HI
      have HG := Lib.hid hg
      have HY := Lib.hid hy
      obtain ⟨b, hb⟩ : ∃ b, balS n g.p = b := ⟨_, rfl⟩
      have BC : Hid (∀ q', Calls Try.prog 63 #[.int .i64 n, .slice q m d] (wr.drewN q') fun e w' => e = .returned (.bool b) ∧ ∃ mm, w' = (wr.drewN q').drewN mm) := Lib.hid (fun q' => by
        have := ballot_q (HI.out.keep (below_drewN (Below.refl _ _) q')) n
        rwa [hb] at this)
      clear hm hg hy
      cases b
      · have HX : Hid (r = false) := Lib.hid (HRF.out (pile_no_bal (by rw [HN.out]; exact hlt) HG.out (of_decide_eq_false hb)))
        clear hb
        go_wp2_with fail
        go_quiet ((go_at_call 63; exact Calls.quiet_of (BC.out _)))
        all_goals
          go_wp2_with fail
          go_ret
          exact ⟨ret_bb HX.out.symm, below_drewN hbel _⟩
      have hbal : BalP n g.p := of_decide_eq_true hb
      clear hb
      by_cases y0 : y < 1
      · have HX : Hid (r = false) := Lib.hid (HRF.out (pile_no_pos (by rw [HN.out]; exact hlt) HG.out (by rw [HY.out]; exact y0)))
        have e0 : decide (y < 1) = true := decide_eq_true y0
        clear hbal
        go_wp2_with fail
        go_quiet ((go_at_call 63; exact Calls.quiet_of (BC.out _)))
        all_goals
          go_wp2_with fail
          go_ret
          exact ⟨ret_bb HX.out.symm, below_drewN hbel _⟩
      have e0 : decide (y < 1) = false := decide_eq_false y0
      by_cases y1 : s < y
      · have HX : Hid (r = false) := Lib.hid (HRF.out (pile_no_tot (by rw [HN.out]; exact hlt) HG.out (by rw [HY.out, ← hS.out]; exact y1)))
        have e1 : decide (s < y) = true := decide_eq_true y1
        clear hbal
        go_wp2_with fail
        go_quiet ((go_at_call 63; exact Calls.quiet_of (BC.out _)))
        all_goals
          go_wp2_with fail
          go_ret
          exact ⟨ret_bb HX.out.symm, below_drewN hbel _⟩
      have e1 : decide (s < y) = false := decide_eq_false y1
      have hws : IntKind.i64.wrap (s - y) = s - y := w64 (by omega) (by omega)
      cases k with
      | zero =>
        have HX : Hid (PileP n (gs.take (0 + 1))) := Lib.hid (hP.out.snoc (by rw [HN.out]; exact hlt) HG.out hbal (by rw [HY.out]; omega) (by have := hS.out; rw [HY.out]; omega) (fun h => by omega))
        have HS : Hid (s - y = 100000 - totS (gs.take (0 + 1))) := Lib.hid (by rw [take_snoc_g (by rw [HN.out]; exact hlt), HG.out, tot_snoc, HY.out, hS.out]; omega)
        simp only [Nat.zero_mul, Nat.add_zero] at cl0 cl1
        clear hbal
        go_wp2_with fail
        go_quiet ((go_at_call 63; exact Calls.quiet_of (BC.out _)))
        all_goals
          go_wp2_with fail
          go_roundw
          case rel => exact ⟨0 + 1, s - y, by omega, by go_num, rfl, below_drewN hbel _, HS, HX, by omega, by omega⟩
          case measure => simp [intOf] <;> omega
      | succ k =>
        obtain ⟨a, ha⟩ : ∃ g, gs.getD k g0 = g := ⟨_, rfl⟩
        obtain ⟨bb2, off2, q2, m2, d2, hp2, _, _, cm0, _, HI2, hm2⟩ := (H.out.keep hbel).cellAt (by rw [HN.out]; omega) ha
        simp only [Option.some.injEq, Addr.mk.injEq, and_true] at hp2
        obtain ⟨rfl, rfl⟩ := hp2
        have kz : (0 : Int) < ((k + 1 : Nat) : Int) := by omega
        have kz' : (0 : Int) < (k : Int) + 1 := by omega
        have HAq := Lib.hid ha
        obtain ⟨l, hl⟩ : ∃ l, ltL a.p g.p = l := ⟨_, rfl⟩
        have LC : Hid (∀ q', Calls Try.prog 42 #[.slice q2 m2 d2, .slice q m d] (wr.drewN q') fun e w' => e = .returned (.bool l) ∧ ∃ mm, w' = (wr.drewN q').drewN mm) := Lib.hid (fun q' => by
          have := less_q (HI2.keep (below_drewN (Below.refl _ _) q')) (HI.out.keep (below_drewN (Below.refl _ _) q'))
          rwa [hl] at this)
        clear ha HI2 hm2
        cases l
        · have HX : Hid (r = false) := Lib.hid (HRF.out (pile_no_srt (by rw [HN.out]; exact hlt) HAq.out HG.out hl))
          clear hl hbal
          go_wp2_with fail
          go_quiet (first | (go_at_call 63; exact Calls.quiet_of (BC.out _)) | (go_at_call 42; exact Calls.quiet_of (LC.out _)))
          all_goals
            go_wp2_with fail
            go_ret
            exact ⟨ret_bb HX.out.symm, below_drewN hbel _⟩
        · have HX : Hid (PileP n (gs.take (k + 1 + 1))) := Lib.hid (hP.out.snoc (by rw [HN.out]; exact hlt) HG.out hbal (by rw [HY.out]; omega) (by have := hS.out; rw [HY.out]; omega) (fun _ => by rw [Nat.add_sub_cancel, HAq.out]; exact hl))
          have HS : Hid (s - y = 100000 - totS (gs.take (k + 1 + 1))) := Lib.hid (by rw [take_snoc_g (by rw [HN.out]; exact hlt), HG.out, tot_snoc, HY.out, hS.out]; omega)
          clear hl hbal
          go_wp2_with fail
          go_quiet (first | (go_at_call 63; exact Calls.quiet_of (BC.out _)) | (go_at_call 42; exact Calls.quiet_of (LC.out _)))
          all_goals
            go_wp2_with fail
            go_roundw
            case rel => exact ⟨k + 1 + 1, s - y, by omega, by go_num, rfl, below_drewN hbel _, HS, HX, by omega, by omega⟩
            case measure => simp [intOf] <;> omega
    · have hltz : ¬ (k : Int) < (len : Int) := by omega
      have HX : Hid (r = true) := Lib.hid (HRT.out (by have := hP.out; rwa [List.take_of_length_le (by rw [HN.out]; omega)] at this))
      go_wp2_with fail
      go_ret
      exact ⟨ret_bb HX.out.symm, hbel⟩

set_option maxHeartbeats 1000000 in
theorem rpile_c {v : Value} {gs : List Grp} {w : World} (hv : PileAt w v gs) :
    Calls Try.prog 89 #[v] w fun e w' => e = .returned (.bool (pileS 7 gs)) ∧ Below w.heap.size w w' := by
  have V := rvalid_c hv 7
  rw [valid_in (by omega) (by omega)] at V
  obtain ⟨r, hr⟩ : ∃ r, pileS 7 gs = r := ⟨_, rfl⟩
  rw [hr] at V ⊢
  have V := Lib.hid V
  clear hv hr
  go_enter Try.func89, Try.ntmps89
  go_wp2_with (go_at_call 44; ((with_reducible refine V.out.mono ?_); rintro _ w1 ⟨rfl, hb1⟩))
  go_ret
  exact ⟨rfl, hb1⟩

end Go.Proofs.Ytbnhgmikegdppaa
