/- The statement IrvRenames: for every input the law returns true and its arguments read as before. No condition. -/
import Derived.Test.YtbnhgmikegdppaaQO
import Derived.WalkKit
import Derived.ProofKit
import Derived.OpenShut
import Derived.ShutString
import Derived.ChangeOld
import Derived.Below
/- IrvRenames: the plain law and the walk. -/
namespace Go.Proofs.Nums

theorem perm_lots (n : Nat) (code : Int) : Lots n (permS n code) := ⟨perm_bal n code, perm_len n code⟩
theorem sig_sur (n : Nat) (code : Int) : ∀ y : Int, 0 ≤ y → y < n → ∃ c : Int, 0 ≤ c ∧ c < n ∧ sig n code c = y := fun y h0 h1 => by
  have hm := perm_mem (n := n) (code := code).2 ⟨h0, h1⟩
  obtain ⟨i, hi, e⟩ := List.getElem_of_mem hm
  rw [perm_len] at hi
  refine ⟨i, by omega, by omega, ?_⟩
  unfold sig
  rw [Int.toNat_natCast, List.getD_eq_getElem?_getD, List.getElem?_eq_getElem (by rw [perm_len]; exact hi), e]
  rfl
theorem ren_bal {n : Nat} {names : Int} {p : List Int} (h : BalP n p) : BalP n (renameS p (permS n names)) := by
  rw [rename_eq]
  refine ⟨fun c hc => ?_, ren_nodup (sig_ren n names) h⟩
  obtain ⟨x, hx, rfl⟩ := List.mem_map.1 hc
  exact (sig_ren n names).rng x (h.1 x hx).1 (h.1 x hx).2
theorem ren_lots {n : Nat} {names : Int} {lots : List Int} (h : Lots n lots) : Lots n (renameS lots (permS n names)) := ⟨ren_bal h.1, by rw [rename_eq, List.length_map]; exact h.2⟩
theorem order_rename {k : Nat} {code names T : Int} {gs : List Grp} (h1 : 1 ≤ k) (h7 : k ≤ 7) (t1 : 1 ≤ T) (t3 : T ≤ 3) (hp : PileP k gs) :
    orderS (brkS T (renameS (permS k code) (permS k names))) (renPileS (fun p => renameS p (permS k names)) gs) k (List.replicate k true) [] = renameS (orderS (brkS T (permS k code)) gs k (List.replicate k true) []) (permS k names) := by
  have hs := sig_ren k names
  refine order_ren hs (sig_sur k names) (gs := gs) ⟨fun g hg c hc => (hp.bal g hg).1 c hc, fun f => ?_⟩ (perm_lots k code) t1 t3 h1 h7 k (List.replicate k true) (List.replicate k true) [] [] ⟨by simp, by simp, fun c h0 h1 => ?_⟩ trivial
  · exact renPile_sum _ gs f
  · rw [rem_full]
    have := hs.rng c h0 h1
    show decide _ = decide _
    rw [decide_eq_true this, decide_eq_true ⟨h0, h1⟩]
theorem order_all {k : Nat} {T : Int} {lots : List Int} {gs : List Grp} (h1 : 1 ≤ k) (h7 : k ≤ 7) (t1 : 1 ≤ T) (t3 : T ≤ 3) (hl : Lots k lots) : (orderS (brkS T lots) gs k (List.replicate k true) []).length = k ∧ BalP k (orderS (brkS T lots) gs k (List.replicate k true) []) := by
  have hb := brk_in hl t1 t3 h1 h7
  have hp := order_perm (gs := gs) (brk := brkS T lots) k (List.replicate k true) [] (by rw [List.length_replicate]; exact hb) (by rw [alive_all_len]; exact Nat.le_refl _)
  refine ⟨by rw [hp.length_eq, alive_all_len], fun c hc => ?_, hp.nodup_iff.2 (sorted_nodup (alive_sorted _))⟩
  have := remB_lt (mem_alive.1 (hp.mem_iff.1 hc))
  rwa [List.length_replicate] at this

end Go.Proofs.Nums
namespace Go.Proofs.Ytbnhgmikegdppaa
open Go.RowKit Go.Proofs.Kit Go.Proofs.Nums

set_option maxHeartbeats 1000000 in
theorem renames_few (n code ties names : Int) {v : Value} {L : List (List Int)} {w : World} (hv : GridAt w v L) (hf : fewB L = false) :
    Calls Try.prog 5 #[.int .i64 n, .int .i64 code, .int .i64 ties, .int .i64 names, v] w fun e w' => e = .returned (.bool true) ∧ Below w.heap.size w w' := by
  have FW := few_c hv
  rw [hf] at FW
  have FW := Lib.hid FW
  clear hv hf
  go_enter Try.func5, Try.ntmps5
  go_wp2_with (first
    | (go_at_call 11; ((with_reducible refine FW.out.mono ?_); rintro _ w1 ⟨rfl, rfl⟩))
    | (go_at_call 12; ((with_reducible refine (awake26 _).mono ?_); rintro _ w2 ⟨rfl, hb2⟩)))
  go_ret
  exact ⟨rfl, hb2⟩

set_option maxRecDepth 100000 in
set_option maxHeartbeats 8000000 in
theorem walk_IrvRenames (n code : Int) (hc1 : -9223372036854775808 ≤ code) (hc2 : code ≤ 9223372036854775807) (ties names : Int) (hd1 : -9223372036854775808 ≤ names) (hd2 : names ≤ 9223372036854775807) {v : Value} {L : List (List Int)} {w : World} (hv : GridAt w v L) :
    Calls Try.prog 5 #[.int .i64 n, .int .i64 code, .int .i64 ties, .int .i64 names, v] w fun e w' => e = .returned (.bool true) ∧ Below w.heap.size w w' := by
  cases hf : fewB L with
  | false => exact renames_few n code ties names hv hf
  | true =>
  obtain ⟨hf1, hf2⟩ := few_true.1 hf
  have FW := few_c hv
  rw [hf] at FW
  have FW := Lib.hid FW
  obtain ⟨k, hk, k1, k7⟩ := mod_one n 7 (by omega)
  obtain ⟨z, hz⟩ : ∃ z, n % ((7 : Nat) : Int) = z := ⟨_, rfl⟩
  rw [hz] at hk
  have M7 : Hid (∀ w, Calls Try.prog 16 #[.int .i64 n, .int .i64 7] w fun e w' => e = .returned (.int .i64 z) ∧ w = w') := Lib.hid (fun w => by rw [← hz]; exact mod_c n 7 (by omega) (by omega) w)
  have e2 : IntKind.i64.wrap (k : Int) = k := w64 (by omega) (by omega)
  obtain ⟨T, hT⟩ : ∃ T, 1 + ties % 3 = T := ⟨_, rfl⟩
  have t1 : 1 ≤ T := by omega
  have t3 : T ≤ 3 := by omega
  have CO : Hid (∀ wq, Calls Try.prog 19 #[.int .i64 0, .int .i64 k, .int .i64 0, .int .i64 0, .int .i64 ties] wq fun e w' => ∃ p c, e = .returned (conC (conM p k c T)) ∧ Below wq.heap.size wq w') := Lib.hid (fun wq => by rw [← hT]; exact contest_c k (by omega) ties wq)
  have PL := Lib.hid (fun wq (h : Below w.heap.size w wq) => mpile_c (hv.keep h) k1 k7 hf1 hf2)
  have hgp := pile_pile (L := L) k1 hf2
  have P1 := Lib.hid (fun wq => perm_x k (by omega) code hc1 hc2 wq)
  have P2 := Lib.hid (fun wq => perm_x k (by omega) names hd1 hd2 wq)
  obtain ⟨gs, hgs⟩ : ∃ gs, pileB k L = gs := ⟨_, rfl⟩
  rw [hgs] at PL hgp
  have hl1 := perm_lots k code
  have hl2 := ren_lots (names := names) hl1
  have hg2 := renPile_pile (r := fun p => renameS p (permS k names)) hgp (fun g hg => ren_bal (hgp.bal g hg))
  have hoe := order_rename (code := code) (names := names) k1 k7 t1 t3 hgp
  have hoa := order_all (T := T) (gs := gs) k1 k7 t1 t3 hl1
  have htl := perm_len k names
  have htl1 := perm_len k code
  obtain ⟨lots, hlo⟩ : ∃ l, permS k code = l := ⟨_, rfl⟩
  obtain ⟨to, hto⟩ : ∃ l, permS k names = l := ⟨_, rfl⟩
  rw [hlo] at P1 hl1 hl2 hoe hoa htl1
  rw [hto] at P2 hl2 hg2 hoe htl
  have OD : Hid (∀ wq p c vg vl gs lots, PileAt wq vg gs → IntsAt wq vl lots → PileP k gs → Lots k lots → Calls Try.prog 29 #[conC (conM p k c T), vg, vl] wq fun e w' => ∃ v', e = .returned (.tuple #[v', .int .i64 0]) ∧ IntsAt w' v' (orderS (brkS T lots) gs k (List.replicate k true) []) ∧ Below wq.heap.size wq w') := Lib.hid (fun wq p c vg vl gs lots hg hl hp hlt => by
    refine (order_c (C := conM p k c T) hg hl (okA k1 k7 t1 t3 hp hlt)).mono ?_
    rintro e w' ⟨v', rfl, h1, _, h3⟩
    exact ⟨v', rfl, h1, h3⟩)
  obtain ⟨o, ho⟩ : ∃ o, orderS (brkS T lots) gs k (List.replicate k true) [] = o := ⟨_, rfl⟩
  rw [ho] at hoe hoa
  have OD1 : Hid (∀ wq p c vg vl, PileAt wq vg gs → IntsAt wq vl lots → Calls Try.prog 29 #[conC (conM p k c T), vg, vl] wq fun e w' => ∃ p' c', e = .returned (.tuple #[.slice p' k c', .int .i64 0]) ∧ IntsAt w' (.slice p' k c') o ∧ Below wq.heap.size wq w') := Lib.hid (fun wq p c vg vl h1 h2 => by
    refine (OD.out wq p c vg vl gs lots h1 h2 hgp hl1).mono ?_
    rintro e w' ⟨v', rfl, g1, g2⟩
    rw [ho] at g1
    obtain ⟨p', c', e'⟩ := g1.shape
    rw [hoa.1] at e'
    subst e'
    exact ⟨p', c', rfl, g1, g2⟩)
  have OD2 : Hid (∀ wq p c vg vl, PileAt wq vg (renPileS (fun p => renameS p to) gs) → IntsAt wq vl (renameS lots to) → Calls Try.prog 29 #[conC (conM p k c T), vg, vl] wq fun e w' => ∃ v', e = .returned (.tuple #[v', .int .i64 0]) ∧ IntsAt w' v' (renameS o to) ∧ Below wq.heap.size wq w') := Lib.hid (fun wq p c vg vl h1 h2 => by
    have := OD.out wq p c vg vl _ _ h1 h2 hg2 hl2
    rwa [hoe] at this)
  have RP := Lib.hid (fun wq vg vt (h1 : PileAt wq vg gs) (h2 : IntsAt wq vt to) => renpile_c h1 h2 hgp k7 htl)
  have RN := Lib.hid (fun wq vl vt (l : List Int) (hl : l.length = k) (hr : ∀ x ∈ l, 0 ≤ x ∧ x < (k : Int)) (h1 : IntsAt wq vl l) (h2 : IntsAt wq vt to) => rename_c h1 h2 (by omega) (fun x hx => by rw [htl]; exact hr x hx))
  have PM : Hid (∀ wq p' c', IntsAt wq (.slice p' k c') o → Calls Try.prog 32 #[.int .i64 k, .slice p' k c'] wq fun e w' => e = .returned (.bool true) ∧ Below wq.heap.size wq w') := Lib.hid (fun wq p' c' h => by
    have := permutation_c h
    rwa [hoa.1, show balS k o = true from decide_eq_true hoa.2] at this)
  have EQ : Hid (∀ wq va vb (l : List Int), IntsAt wq va l → IntsAt wq vb l → Calls Try.prog 13 #[va, vb] wq fun e w' => e = .returned (.bool true) ∧ Below wq.heap.size wq w') := Lib.hid (fun wq va vb l h1 h2 => by
    have := eq_c h1 h2
    rwa [decide_eq_true rfl] at this)
  have HL1 : Hid (lots.length = k ∧ ∀ x ∈ lots, 0 ≤ x ∧ x < (k : Int)) := Lib.hid ⟨hl1.2, hl1.1.1⟩
  have HOA : Hid (o.length = k ∧ ∀ x ∈ o, 0 ≤ x ∧ x < (k : Int)) := Lib.hid ⟨hoa.1, hoa.2.1⟩
  obtain ⟨pv, nv, cv, rfl⟩ : ∃ p n c, v = .slice p n c := by obtain ⟨p, c, e⟩ := hv.shp; exact ⟨_, _, _, e⟩
  clear hz hT hgp hl1 hl2 hg2 hoe hoa htl htl1 hlo hto ho OD hgs hf hf1 hf2 hv
  unfold conC conM conV nmV at CO OD1 OD2
  simp only at CO OD1 OD2
  go_enter Try.func5, Try.ntmps5
  go_wp2_with (first
    | (go_at_call 11; ((with_reducible refine FW.out.mono ?_); rintro _ w1 ⟨rfl, rfl⟩))
    | (go_at_call 16; ((with_reducible refine (M7.out _).mono ?_); rintro _ w2 ⟨rfl, rfl⟩))
    | (go_at_call 19; ((with_reducible refine (CO.out _).mono ?_); rintro _ w3 ⟨p, c, rfl, hb3⟩)))
  have K3 := Lib.hid (Blk.new w3 #[.string ⟨#[99]⟩, .slice p k c, .int .i64 1, .int .i64 1, .int .i64 0, .int .i64 0, .int .i64 T, .int .i64 0, .int .i64 0] 40)
  have b3 : Below w.heap.size w (w3.alloc (.cells #[.string ⟨#[99]⟩, .slice p k c, .int .i64 1, .int .i64 1, .int .i64 0, .int .i64 0, .int .i64 T, .int .i64 0, .int .i64 0] 40)) := below_al hb3 _
  obtain ⟨W3, hW3⟩ : ∃ W3, w3.alloc (.cells #[.string ⟨#[99]⟩, .slice p k c, .int .i64 1, .int .i64 1, .int .i64 0, .int .i64 0, .int .i64 T, .int .i64 0, .int .i64 0] 40) = W3 := ⟨_, rfl⟩
  rw [hW3] at K3 b3 ⊢
  clear hW3
  obtain ⟨B, hB⟩ : ∃ B, w3.heap.size = B := ⟨_, rfl⟩
  rw [hB] at K3 ⊢
  clear hB
  go_wp2_with (first
    | (go_at_call 17; ((with_reducible refine (PL.out _ b3).mono ?_); rintro _ w4 ⟨v4, rfl, h4, hb4⟩))
    | (go_at_call 20; ((with_reducible refine (P1.out _).mono ?_); rintro _ w5 ⟨v5, rfl, h5, _, hb5⟩; have b5 := bel2' hb4 hb5))
    | (go_at_call 20; ((with_reducible refine (P2.out _).mono ?_); rintro _ w6 ⟨v6, rfl, h6, _, hb6⟩; have b6 := bel2' b5 hb6; obtain ⟨x0, x1, x2, x3, x4, x5, x6, x7, x8⟩ := nine_cells (K3.out.keep b6); have h46 := h4.keep (bel2' hb5 hb6); have h56 := h5.keep hb6))
    | (go_at_call 29; ((with_reducible refine (OD1.out _ _ _ _ _ h46 h56).mono ?_); rintro _ w7 ⟨p7, c7, rfl, h7, hb7⟩; have b7 := bel2' b6 hb7; have H47 := Lib.hid (h46.keep hb7); have H57 := Lib.hid (h56.keep hb7); have H67 := Lib.hid (h6.keep hb7))))
  have hd7 : Below w7.heap.size w7 w7.drew := (Below.refl _ _).drew
  have b7d : Below W3.heap.size W3 w7.drew := b7.drew
  have H7 := Lib.hid h7
  clear x0 x1 x2 x3 x4 x5 x6 x7 x8 h7 h46 h56 h4 h5 h6
  go_region_held3 (fun w' => w'.cell? ⟨B, 0, none⟩ = some (.string ⟨#[99]⟩) ∧ w'.cell? ⟨B, 1, none⟩ = some (.slice p k c) ∧ w'.cell? ⟨B, 2, none⟩ = some (.int .i64 1) ∧ w'.cell? ⟨B, 3, none⟩ = some (.int .i64 1) ∧ w'.cell? ⟨B, 4, none⟩ = some (.int .i64 0) ∧ w'.cell? ⟨B, 5, none⟩ = some (.int .i64 0) ∧ w'.cell? ⟨B, 6, none⟩ = some (.int .i64 T) ∧ w'.cell? ⟨B, 7, none⟩ = some (.int .i64 0) ∧ w'.cell? ⟨B, 8, none⟩ = some (.int .i64 0))
    (first | exact nine_cells (K3.out.keep b10) | exact nine_cells (K3.out.keep b9) | exact nine_cells (K3.out.keep b8) | exact nine_cells (K3.out.keep b7d))
    (first
      | (go_at_call 30; ((with_reducible refine (RP.out _ _ _ (H47.out.keep hd7) (H67.out.keep hd7)).mono ?_); rintro _ w8 ⟨v8, rfl, h8, hb8⟩; have hd8 := bel2' hd7 hb8; have b8 := bel2' b7d hb8))
      | (go_at_call 31; ((with_reducible refine (RN.out _ _ _ _ HL1.out.1 HL1.out.2 (H57.out.keep hd8) (H67.out.keep hd8)).mono ?_); rintro _ w9 ⟨v9, rfl, h9, _, hb9⟩; have hd9 := bel2' hd8 hb9; have b9 := bel2' b8 hb9; have h89 := h8.keep hb9))
      | (go_at_call 29; ((with_reducible refine (OD2.out _ _ _ _ _ h89 h9).mono ?_); rintro _ w10 ⟨v10, rfl, h10, hb10⟩; have hd10 := bel2' hd9 hb10; have b10 := bel2' b9 hb10)))
  all_goals
    have h710 := H7.out.keep hd10
    have h610 := H67.out.keep hd10
    go_wp2_with (first
      | (go_at_call 32; ((with_reducible refine (PM.out _ _ _ h710).mono ?_); rintro _ w11 ⟨rfl, hb11⟩))
      | (go_at_call 12; ((with_reducible refine (awake26 _).mono ?_); rintro _ w12 ⟨rfl, hb12⟩; have hb12' := bel2' hb11 hb12))
      | (go_at_call 31; ((with_reducible refine (RN.out _ _ _ _ HOA.out.1 HOA.out.2 (h710.keep hb12') (h610.keep hb12')).mono ?_); rintro _ w13 ⟨v13, rfl, h13, _, hb13⟩; have hb13' := bel2' hb12' hb13))
      | (go_at_call 13; ((with_reducible refine (EQ.out _ _ _ _ (h10.keep hb13') h13).mono ?_); rintro _ w14 ⟨rfl, hb14⟩)))
    go_ret
    exact ⟨rfl, bel2' (bel2' (bel2' b3 b10) hb13') hb14⟩

end Go.Proofs.Ytbnhgmikegdppaa

namespace Go.Proofs.Ytbnhgmikegdppaa.irvRenames
open Go.ChangeShapes Go.WideShapes Go.ChangeAt Go.RowKit
open Go.ChangeMaps (open_string shut_string)

theorem own : ownKnob Try.prog.godebug = none := by kernel_rfl
theorem laidOut : laidOutB Try.prog = true := by kernel_rfl

set_option maxRecDepth 100000 in
theorem lifted (os : Os) (started : os.Started) (H : Type) (enc : TypeId × Value → H) :
    ReturnsInHanded {} Try.checked os 5 .any (Rows.irvRenamesSpec.pre6 enc Try.prog Try.f5 Rows.irvRenamesRow.domain false) (Rows.irvRenamesSpec.post enc Try.prog Try.f5 false true false false) := by
  refine returnsInHanded_of_change (C := Try.checked) own started (by kernel_rfl) Try.func5
    (ChangeSpec.witness6 (enc := enc) (C := Try.checked) false ⟨#[], #[.int .i64 0, .int .i64 0, .int .i64 0, .int .i64 0, .slice none 0 0], []⟩ 8 (by kernel_rfl) (by kernel_rfl) (by kernel_rfl) (by kernel_rfl)) ?_
  intro W base args ds gs before hval0 hW hcnd _
  have hval := hval0
  have hW' := hW
  obtain ⟨p, q, hA0, hV, rfl, hfz, hnd⟩ := hW
  have hA : DataW.TrodAll enc Try.prog W 0 (fun _ => true) true Try.f5.params.toList args.toList ds p := hA0
  rw [Try.params5] at hA hval
  obtain ⟨v0, vs0, d0, ds0, p0, q0, hargs, rfl, rfl, h0, r0⟩ := trodAll_cons hA
  obtain ⟨v1, vs1, d1, ds1, p1, q1, rfl, rfl, rfl, h1, r1⟩ := trodAll_cons r0
  obtain ⟨v2, vs2, d2, ds2, p2, q2, rfl, rfl, rfl, h2, r2⟩ := trodAll_cons r1
  obtain ⟨v3, vs3, d3, ds3, p3, q3, rfl, rfl, rfl, h3, r3⟩ := trodAll_cons r2
  obtain ⟨v4, vs4, d4, ds4, p4, q4, rfl, rfl, rfl, h4, r4⟩ := trodAll_cons r3
  obtain ⟨rfl, rfl, rfl⟩ := trodAll_nil r4
  obtain rfl : args = #[v0, v1, v2, v3, v4] := by cases args; simp_all
  obtain ⟨rfl, rfl⟩ := trodVars_none hV
  obtain ⟨a0, rfl, rfl, rfl, w0⟩ := open_int Try.underlying3 (hval 0 3 v0 rfl rfl) h0
  obtain ⟨a1, rfl, rfl, rfl, w1⟩ := open_int Try.underlying3 (hval 1 3 v1 rfl rfl) h1
  have wf1 := w1
  simp [Lit.wf] at wf1
  have lo1 : IntKind.i64.min = -9223372036854775808 := by decide
  have hi1 : IntKind.i64.max = 9223372036854775807 := by decide
  obtain ⟨a2, rfl, rfl, rfl, w2⟩ := open_int Try.underlying3 (hval 2 3 v2 rfl rfl) h2
  obtain ⟨a3, rfl, rfl, rfl, w3⟩ := open_int Try.underlying3 (hval 3 3 v3 rfl rfl) h3
  have wf3 := w3
  simp [Lit.wf] at wf3
  have lo3 : IntKind.i64.min = -9223372036854775808 := by decide
  have hi3 : IntKind.i64.max = 9223372036854775807 := by decide
  have lt4 : ∀ x ∈ p4, x.block < W.heap.size := by obtain ⟨m, hm⟩ := h4; exact DataW.trod_lt m _ _ _ hm
  obtain ⟨l4, n4⟩ := grid_open (hval 4 23 v4 rfl rfl) h4
  clear hA0 hval0
  refine (walk_IrvRenames a0 a1 (by omega) (by omega) a2 a3 (by omega) (by omega) n4).mono fun e W' ⟨he, bel⟩ => ?_
  subst he
  exact ⟨_, rfl, _, _, _, [], _, [], hW', trodAll_mk1 (shut_bool Try.underlying4 _), (trodAll_cons_mk (shut_int Try.underlying3 w0) (trodAll_cons_mk (shut_int Try.underlying3 w1) (trodAll_cons_mk (shut_int Try.underlying3 w2) (trodAll_cons_mk (shut_int Try.underlying3 w3) (trodAll_cons_mk (Below.trod laidOut (by kernel_rfl) (of_decide_eq_true (by kernel_rfl)) h4 bel lt4) trodAll_mk0))))), rfl, bel.frame _, fun h => by cases h⟩

theorem over : Rows.irvRenamesRow.holds Try.pinned (OpenSpec.ofChange Rows.irvRenamesSpec) :=
  OpenClaim.holds_of_wide 5 Try.f5 rfl rfl rfl rfl rfl rfl rfl ⟨rfl, rfl, rfl, rfl, rfl⟩ rfl rfl rfl rfl rfl (by kernel_rfl) Try.func5 (by kernel_rfl)
    (of_decide_eq_true (by kernel_rfl)) (by unfold Func.isWrapper; first | (rw [if_pos (by decide +kernel)]; kernel_rfl) | (rw [if_neg (by decide +kernel)]; exact ⟨rfl, rfl⟩))
    (fun os started H enc _ => lifted os started H enc)

end Go.Proofs.Ytbnhgmikegdppaa.irvRenames
namespace Go.Proofs.Ytbnhgmikegdppaa
/-- IrvRenames: the given statement. -/
theorem irvRenames_proved : Rows.IrvRenamesSaid := irvRenames.over
#print axioms irvRenames_proved
end Go.Proofs.Ytbnhgmikegdppaa
