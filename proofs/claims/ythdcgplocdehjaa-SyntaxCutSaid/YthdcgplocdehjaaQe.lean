/- The reference's reader: field. -/
import Derived.Test.YthdcgplocdehjaaZG
namespace Go.Proofs.Ythdcgplocdehjaa
open Go.RowKit Go.Proofs.Kit

set_option maxRecDepth 100000 in
set_option maxHeartbeats 8000000 in
theorem rfield_c {B g n cap : Nat} {T : List Tok} {s : St} {w : World} (hT : TOk T) (h : Rdr B g n cap T s w) :
    Calls Try.prog 38 #[.pointer (some ⟨B, 0, none⟩)] w fun e w' => ∃ u, e = .returned (.agg #[strV (fldT T s).1, u, .int .i64 (tk T s.i).2.2]) ∧ OwnS w' w.heap.size u (fldT T s).2.1 ∧ Rdr B g n cap T (fldS T s) w' ∧ Upd B w w' := by
  have hBw : B < w.heap.size := h.blk.1
  have hBd : Below w.heap.size w (w.alloc (.cells #[.string ⟨#[]⟩, .slice none 0 0, .int .i64 0] 42)) := (Below.refl _ _).alloc (Nat.le_refl _) _
  have R0 := Lib.hid (Bk.new w #[.string ⟨#[]⟩, .slice none 0 0, .int .i64 0] 42)
  have h0 := h.keep hBd
  have hg := h.glt
  have hgB := h.gB
  obtain ⟨W, hW⟩ : ∃ W, w.alloc (.cells #[.string ⟨#[]⟩, .slice none 0 0, .int .i64 0] 42) = W := ⟨_, rfl⟩
  rw [hW] at hBd R0 h0
  have HW := Lib.hid hW
  have hs0 := R0.out.1
  have hTn := hT.num
  have hTl := h.len
  have hi := h.i
  have hc1 := h.cap1
  have hc2 := h.cap2
  have HTL := Lib.hid hTl
  have K0 := Lib.hid (show Knr B g n cap T s w (Bk w.heap.size fldZ) W from ⟨h0, R0.out, Upd.of hBd (by omega), bk_st (by omega)⟩)
  obtain ⟨S1, hS1⟩ : ∃ S : ByteArray, (⟨(takeT T s 1 []).2.1.toArray⟩ : ByteArray) = S := ⟨_, rfl⟩
  obtain ⟨l0, hl0⟩ : ∃ l, (tk T s.i).2.2 = l := ⟨_, rfl⟩
  have ZF : Hid (∀ W', Rdr B g n cap T s W' → W'.cell? ⟨g, s.i * 3 + 2, none⟩ = some (.int .i64 l0)) := Lib.hid (fun W' g' => by rw [← hl0]; exact (g'.row s.i g'.i).2.2)
  obtain ⟨s1, hs1⟩ : ∃ x, needS T s 1 [] = x := ⟨_, rfl⟩
  have NA := Lib.hid (fun w' (g' : Rdr B g n cap T s w') => rtake_v hT g' 1 ⟨#[]⟩ hS1 hs1)
  have VA := Lib.hid (fun w' (g' : Rdr B g n cap T s1 w') => rvalue_c hT g')
  obtain ⟨V1, hV1⟩ : ∃ S : ByteArray, (⟨(valT T s1).toArray⟩ : ByteArray) = S := ⟨_, rfl⟩
  obtain ⟨s2, hs2⟩ : ∃ x, valS T s1 = x := ⟨_, rfl⟩
  rw [hV1, hs2] at VA
  have HF : Hid ((fldT T s).1 = (takeT T s 1 []).2.1 ∧ (fldT T s).2.1 = valT T s1 :: comT T T.length s2) := Lib.hid (by unfold fldT; rw [hs1, hs2]; exact ⟨rfl, rfl⟩)
  have HFS : Hid (fldS T s = needS T (comS T T.length s2) 4 [59]) := Lib.hid (by unfold fldS; rw [hs1, hs2])
  have HK : Hid (strV (takeT T s 1 []).2.1 = .string S1) := Lib.hid (by unfold strV; rw [hS1])
  have HV : Hid (strV (valT T s1) = .string V1) := Lib.hid (by unfold strV; rw [hV1])
  rw [HF.out.1, HF.out.2, HFS.out, HK.out, hl0]
  clear hW hS1 hl0 hs1 hV1 hs2 h0 h
  obtain ⟨i, f⟩ := s
  simp only at hi ZF K0
  have iz : (i : Int) < (n : Int) := by omega
  have iz0 : (0 : Int) ≤ (i : Int) := by omega
  go_enter Try.func38, Try.ntmps38
  go_upto_region 1 with fail
  rw [HW.out]
  go_cut [3] (fun s3 wx => ∃ F, s3 = .pointer (some ⟨F, 0, none⟩) ∧ Hid (Knr B g n cap T ⟨i, f⟩ w (fun W => Bk w.heap.size fldZ W ∧ Bk F #[.string ⟨#[]⟩, .slice none 0 0, .int .i64 l0] W) wx) ∧ w.heap.size < F)
  case first =>
    have K1 := Lib.hid K0.out.drew
    have K2 := Lib.hid (K0.out.alloc (.cells #[.string ⟨#[]⟩, .slice none 0 0, .int .i64 0] 42))
    have K3 := Lib.hid (K2.out.drew)
    have K4 := Lib.hid (K0.out.alloc (.cells #[.string ⟨#[]⟩, .slice none 0 0, .int .i64 l0] 42))
    have K5 := Lib.hid (K4.out.drew)
    have N4 := Lib.hid (Bk.new W #[.string ⟨#[]⟩, .slice none 0 0, .int .i64 l0] 42)
    obtain ⟨a0, a1, a2⟩ := K0.out.p.blk.three
    obtain ⟨b0, b1, b2⟩ := K1.out.p.blk.three
    obtain ⟨c0, c1, c2⟩ := K2.out.p.blk.three
    obtain ⟨d0, d1, d2⟩ := K3.out.p.blk.three
    have e0 := ZF.out _ K0.out.p
    have e1 := ZF.out _ K1.out.p
    have e2 := ZF.out _ K2.out.p
    have e3 := ZF.out _ K3.out.p
    go_region
    all_goals
      go_wp2_with fail
      go_meet
      exact ⟨W.heap.size, rfl, Lib.hid ⟨K5.out.p, ⟨K5.out.q, N4.out.keep (Below.refl _ _).drew⟩, K5.out.u, fun _ _ hu k => ⟨k.1.upd hu (by omega), k.2.upd hu (by omega)⟩⟩, hs0⟩
  case rest =>
    obtain ⟨F, rfl, hK, hFR⟩ := hcut
    have hgF : F ≠ g := by omega
    go_upto_region 3 with (go_at_call 21; ((with_reducible refine (NA.out _ hK.out.p).mono ?_); rintro e w1 ⟨rfl, hP1, hu1⟩; have K1 := Lib.hid (hK.out.step hu1 hP1); obtain ⟨c0, c1, c2⟩ := K1.out.q.2.three; obtain ⟨d0, d1, d2⟩ := K1.out.q.2.free3))
    have K2 := Lib.hid (Knr.put (o := 0) K1.out (by simp) (.string S1) (by omega) hgF (by omega) (by omega) (bk_off K1.out.q.1 (by omega) _) (bk_st (by omega)))
    revert K2
    generalize w1.setCell ⟨F, 0, none⟩ (.string S1) = X
    intro K2
    have K2 := Lib.hid (show Knr B g n cap T s1 w (fun W => Bk w.heap.size fldZ W ∧ Bk F #[.string S1, .slice none 0 0, .int .i64 l0] W) X from K2.out)
    go_upto_region 4 with (go_at_call 58; ((with_reducible refine (VA.out _ K2.out.p).mono ?_); rintro e w3 ⟨rfl, hP3, hu3⟩; have K3 := Lib.hid (K2.out.step hu3 hP3); obtain ⟨x0, x1, x2⟩ := (K3.out.alloc (.cells #[.string V1] 9)).q.2.three; obtain ⟨y0, y1, y2⟩ := (K3.out.alloc (.cells #[.string V1] 9)).q.2.free3; have hF3 := K3.out.q.2.1; have hW3 := K3.out.u.below.size))
    have K4 := Lib.hid (QF.first (V := V1) K3.out (by omega) (by omega) hBw (by omega) (by omega) hg hW3)
    revert K4
    generalize (w3.setCell ⟨F, 1, none⟩ (.slice (some ⟨w3.heap.size, 0, none⟩) 1 1)).alloc (.cells #[.string V1] 9) = Y
    intro K4
    go_loopw [24] (fun _ wr => ∃ fu : Nat, ∃ sx : St, ∃ vals : List (List UInt8), ∃ u, vals.length + fu = n + 1 ∧ n ≤ fu + sx.i ∧ Hid (Knr B g n cap T sx w (QF w.heap.size F w.heap.size S1 l0 u (vals.map strV)) wr) ∧ Hid (valT T s1 :: comT T T.length s2 = vals ++ comT T fu sx) ∧ Hid (comS T T.length s2 = comS T fu sx)) (fun _ wr => remR n B wr)
    case atStart => exact ⟨n, s2, [valT T s1], _, by simp; omega, by omega, Lib.hid (by rw [List.map_singleton, HV.out]; exact K4.out), Lib.hid (by rw [HTL.out]; rfl), Lib.hid (by rw [HTL.out])⟩
    case round =>
      obtain ⟨fu, sx, vals, u, hv1, hv2, hKx, hcT, hcS⟩ := hrel
      have hsi := hKx.out.p.i
      obtain ⟨pu, nu, cu, eu⟩ := own_sl hKx.out.q.2.2.1
      subst eu
      obtain ⟨b, hb⟩ : ∃ b, isP T sx 4 [44] = b := ⟨_, rfl⟩
      have TA := at_v hT hKx.out.p 4 ⟨#[44]⟩ hb
      cases b
      · have TA := Lib.hid TA
        obtain ⟨e1, e2⟩ := comT_no (f := fu) hb
        have HE1 : Hid (valT T s1 :: comT T T.length s2 = vals) := Lib.hid (by rw [hcT.out, e1, List.append_nil])
        have HE2 : Hid (comS T T.length s2 = sx) := Lib.hid (by rw [hcS.out, e2])
        obtain ⟨S5, hS5⟩ : ∃ S : ByteArray, (⟨(takeT T sx 4 [59]).2.1.toArray⟩ : ByteArray) = S := ⟨_, rfl⟩
        have NE := Lib.hid (fun w' (g' : Rdr B g n cap T sx w') => rtake_v hT g' 4 ⟨#[59]⟩ hS5 rfl)
        rw [show (⟨#[59]⟩ : ByteArray).data.toList = [59] from rfl] at NE
        clear hb e1 e2 hS5
        obtain ⟨wo, rfl⟩ : ∃ x, x = wr := ⟨_, rfl⟩
        go_wp2_with (first
          | (go_at_call 22; ((with_reducible refine (TA.out).mono ?_); rintro e w5 ⟨rfl, hP5, hu5⟩; have K5 := Lib.hid (hKx.out.step hu5 hP5)))
          | (go_at_call 21; ((with_reducible refine (NE.out _ K5.out.p).mono ?_); rintro e w7 ⟨rfl, hP7, hu7⟩; have K7 := Lib.hid (K5.out.step hu7 hP7); obtain ⟨c0, c1, c2⟩ := K7.out.q.2.1.three; obtain ⟨r0, r1, r2⟩ := (show Bk w.heap.size #[.string ⟨#[]⟩, .slice none 0 0, .int .i64 0] w7 from K7.out.q.1).three; obtain ⟨f0, f1, f2⟩ := K7.out.q.1.free3)))
        refine bodyPost_ret (v := .agg #[.string S1, .slice pu nu cu, .int .i64 l0]) (by simp [results, Try.results38, go_sem, r0, r1, r2]) rfl ?_
        have hu9 := ((K7.out.u.off (b := w.heap.size) (o := 0) (v := .string S1) (Nat.le_refl _) (by omega)).off (b := w.heap.size) (o := 1) (v := .slice pu nu cu) (Nat.le_refl _) (by omega)).off (b := w.heap.size) (o := 2) (v := .int .i64 l0) (Nat.le_refl _) (by omega)
        have hp9 := ((hP7.off (b := w.heap.size) (o := 0) (v := .string S1) (by omega) (by omega)).off (b := w.heap.size) (o := 1) (v := .slice pu nu cu) (by omega) (by omega)).off (b := w.heap.size) (o := 2) (v := .int .i64 l0) (by omega) (by omega)
        have ho := K7.out.q.2.2.1
        have hno : ∀ o, (Value.slice pu nu cu).ownBlock ≠ some (⟨w.heap.size, o, none⟩ : Addr).block := fun o hh => (K7.out.q.2.2.2 w.heap.size hh).1 rfl
        have ho9 := ownsRow_setCell_other (ownsRow_setCell_other (ownsRow_setCell_other ho (a := ⟨w.heap.size, 0, none⟩) (hno 0) (.string S1)) (a := ⟨w.heap.size, 1, none⟩) (hno 1) (.slice pu nu cu)) (a := ⟨w.heap.size, 2, none⟩) (hno 2) (.int .i64 l0)
        rw [List.length_map] at ho9
        exact ⟨_, rfl, by rw [HE1.out]; exact ho9, by rw [HE2.out]; exact hp9, hu9⟩
      · have TA := Lib.hid TA
        have hi1 : (takeS T sx 4 [44]).i = sx.i + 1 := by rw [takeS_yes hb]; unfold nextP; rw [if_neg (by decide)]
        obtain ⟨fu, rfl⟩ : ∃ f, fu = f + 1 := ⟨fu - 1, by omega⟩
        obtain ⟨e1, e2⟩ := comT_yes (f := fu) hb
        have HIN : Hid (∀ w', Knr B g n cap T sx w (QF w.heap.size F w.heap.size S1 l0 (.slice pu nu cu) (vals.map strV)) w' → Knr B g n cap T (takeS T sx 4 [44]) w (QF w.heap.size F w.heap.size S1 l0 (.slice pu nu cu) (vals.map strV)) (w'.setCell ⟨B, 1, none⟩ (.int .i64 ((sx.i : Int) + 1)))) := Lib.hid (fun w' k' => k'.inc hT hb (by decide))
        obtain ⟨sy, hsy⟩ : ∃ x, takeS T sx 4 [44] = x := ⟨_, rfl⟩
        rw [hsy] at HIN e1 e2 hi1
        have hmono := valS_mono T sy
        obtain ⟨sz, hsz⟩ : ∃ x, valS T sy = x := ⟨_, rfl⟩
        obtain ⟨V2, hV2⟩ : ∃ S : ByteArray, (⟨(valT T sy).toArray⟩ : ByteArray) = S := ⟨_, rfl⟩
        have VC := Lib.hid (fun w' (g' : Rdr B g n cap T sy w') => rvalue_c hT g')
        rw [hsz, hV2] at VC
        rw [hsz] at e1 e2 hmono
        have HE1 : Hid (valT T s1 :: comT T T.length s2 = (vals ++ [valT T sy]) ++ comT T fu sz) := Lib.hid (by rw [hcT.out, e1, List.append_assoc]; rfl)
        have HE2 : Hid (comS T T.length s2 = comS T fu sz) := Lib.hid (by rw [hcS.out, e2])
        have HVV : Hid (strV (valT T sy) = .string V2) := Lib.hid (by unfold strV; rw [hV2])
        have hrem := remR_rdr hKx.out.p
        clear hb e1 e2 hsy hsz hV2
        obtain ⟨sxi, sxf⟩ := sx
        simp only at hsi hi1 hrem hv2 HIN
        obtain ⟨wo, rfl⟩ : ∃ x, x = wr := ⟨_, rfl⟩
        go_upto_region 6 with (go_at_call 22; ((with_reducible refine (TA.out).mono ?_); rintro e w5 ⟨rfl, hP5, hu5⟩; have K5 := Lib.hid (hKx.out.step hu5 hP5); obtain ⟨k0, k1, k2⟩ := K5.out.p.blk.three; obtain ⟨l0, l1, l2⟩ := K5.out.p.blk.free3))
        have K6 := Lib.hid (HIN.out _ K5.out)
        revert K6
        generalize w5.setCell ⟨B, 1, none⟩ (.int .i64 ((sxi : Int) + 1)) = X2
        intro K6
        have K7 := Lib.hid K6.out.drew
        obtain ⟨a0, a1, a2⟩ := K7.out.q.2.1.three
        go_region_law (first
          | (refine step_append_str (by rfl) (by rfl) K9.out.q.2.2.1 (by rfl) (by rfl) (cell_alloc_new w8 _ _ _ 0) (by rw [List.length_map]; omega) hle8 ?_; intro v9 w9 ho9 hb9 hg9 hv9; have KG := Lib.hid (QF.growR K9.out (by omega) (by omega) hBw (by omega) (by omega) hg ho9 hb9 hg9 hv9 rfl); obtain ⟨x0, x1, x2⟩ := (QF.after K9.out.q hb9 hg9).three; obtain ⟨y0, y1, y2⟩ := (QF.after K9.out.q hb9 hg9).free3; obtain ⟨p9, n9, c9, e9⟩ := own_sl ho9; subst e9)
          | (go_simp; go_wp2_with (go_at_call 58; ((with_reducible refine (VC.out _ K7.out.p).mono ?_); rintro e w8 ⟨rfl, hP8, hu8⟩; have K8 := Lib.hid (K7.out.step hu8 hP8); have K9 := Lib.hid (K8.out.alloc (.cells #[.string V2] 9)); have hle8 := K9.out.u.below.size; obtain ⟨b0, b1, b2⟩ := K8.out.q.2.1.three; obtain ⟨c0, c1, c2⟩ := K9.out.q.2.1.three))))
        all_goals
          go_wp2_with fail
          exact ⟨⟨fu, sz, vals ++ [valT T sy], _, by rw [List.length_append, List.length_singleton]; omega, by omega, Lib.hid (by rw [List.map_append, List.map_singleton, HVV.out]; exact KG.out), HE1, HE2⟩, by rw [remR_rdr KG.out.p, hrem]; have := KG.out.p.i; omega⟩

end Go.Proofs.Ythdcgplocdehjaa
