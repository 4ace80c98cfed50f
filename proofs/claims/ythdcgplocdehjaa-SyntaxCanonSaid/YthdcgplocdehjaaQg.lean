/- The reference's reader: block. -/
import Derived.Test.YthdcgplocdehjaaQf
namespace Go.Proofs.Ythdcgplocdehjaa
open Go.RowKit Go.Proofs.Kit

set_option maxRecDepth 100000 in
set_option maxHeartbeats 8000000 in
theorem rblock_c {B g n cap : Nat} {T : List Tok} {s : St} {w : World} (hT : TOk T) (h : Rdr B g n cap T s w) :
    Calls Try.prog 23 #[.pointer (some ⟨B, 0, none⟩)] w fun e w' => ∃ p m c, e = .returned (.agg #[strV (rblkT T s).1, strV (rblkT T s).2.1, .slice p m c, .int .i64 (rblkT T s).2.2.2]) ∧ (∃ css, Lst fldR w.heap.size w.heap.size 42 3 (.slice p m c) w' (rblkT T s).2.2.1 css) ∧ Rdr B g n cap T (rblkS T s) w' ∧ Upd B w w' := by
  have hBw : B < w.heap.size := h.blk.1
  have hBd : Below w.heap.size w (w.alloc (.cells #[.string ⟨#[]⟩, .string ⟨#[]⟩, .slice none 0 0, .int .i64 0] 39)) := (Below.refl _ _).alloc (Nat.le_refl _) _
  have R0 := Lib.hid (Bk.new w #[.string ⟨#[]⟩, .string ⟨#[]⟩, .slice none 0 0, .int .i64 0] 39)
  have h0 := h.keep hBd
  have hg := h.glt
  have hgB := h.gB
  obtain ⟨W, hW⟩ : ∃ W, w.alloc (.cells #[.string ⟨#[]⟩, .string ⟨#[]⟩, .slice none 0 0, .int .i64 0] 39) = W := ⟨_, rfl⟩
  rw [hW] at hBd R0 h0
  have HW := Lib.hid hW
  have hs0 := R0.out.1
  have hTn := hT.num
  have hTl := h.len
  have hi := h.i
  have hc1 := h.cap1
  have hc2 := h.cap2
  have HTL := Lib.hid hTl
  have K0 := Lib.hid (show Knr B g n cap T s w (Bk w.heap.size blkZ) W from ⟨h0, R0.out, Upd.of hBd (by omega), bk_st (by omega)⟩)
  obtain ⟨S1, hS1⟩ : ∃ S : ByteArray, (⟨(takeT T s 1 []).2.1.toArray⟩ : ByteArray) = S := ⟨_, rfl⟩
  obtain ⟨l0, hl0⟩ : ∃ l, (tk T s.i).2.2 = l := ⟨_, rfl⟩
  have ZF : Hid (∀ W', Rdr B g n cap T s W' → W'.cell? ⟨g, s.i * 3 + 2, none⟩ = some (.int .i64 l0)) := Lib.hid (fun W' g' => by rw [← hl0]; exact (g'.row s.i g'.i).2.2)
  obtain ⟨s1, hs1⟩ : ∃ x, needS T s 1 [] = x := ⟨_, rfl⟩
  have NA := Lib.hid (fun w' (g' : Rdr B g n cap T s w') => rtake_v hT g' 1 ⟨#[]⟩ hS1 hs1)
  obtain ⟨b2, hb2⟩ : ∃ b, isP T s1 1 [] = b := ⟨_, rfl⟩
  obtain ⟨S2, hS2⟩ : ∃ S : ByteArray, (⟨(takeT T s1 1 []).2.1.toArray⟩ : ByteArray) = S := ⟨_, rfl⟩
  have AN := Lib.hid (fun w' (g' : Rdr B g n cap T s1 w') => at_v hT g' 1 ⟨#[]⟩ hb2)
  obtain ⟨s2, hs2⟩ : ∃ x, takeS T s1 1 [] = x := ⟨_, rfl⟩
  have TN : Hid (b2 = true → ∀ w', Rdr B g n cap T s1 w' → Calls Try.prog 21 #[.pointer (some ⟨B, 0, none⟩), .int .i64 1, .string ⟨#[]⟩] w' fun e w2 => e = .returned (.string S2) ∧ Rdr B g n cap T s2 w2 ∧ Upd B w' w2) := Lib.hid (fun hb w' g' => by
    rw [hb] at hb2
    exact rtake_v hT g' 1 ⟨#[]⟩ hS2 (by rw [← hs2]; exact need_take hb2))
  have SN : Hid (b2 = false → s2 = s1 ∧ S2 = ⟨#[]⟩) := Lib.hid (fun hb => by
    rw [hb] at hb2
    exact ⟨by rw [← hs2]; exact takeS_no hb2, by rw [← hS2, takeT_no hb2]; rfl⟩)
  obtain ⟨S3, hS3⟩ : ∃ S : ByteArray, (⟨(takeT T s2 4 [123]).2.1.toArray⟩ : ByteArray) = S := ⟨_, rfl⟩
  obtain ⟨s3, hs3⟩ : ∃ x, needS T s2 4 [123] = x := ⟨_, rfl⟩
  have NC := Lib.hid (fun w' (g' : Rdr B g n cap T s2 w') => rtake_v hT g' 4 ⟨#[123]⟩ hS3 hs3)
  have HB : Hid (rblkT T s = ((takeT T s 1 []).2.1, (takeT T s1 1 []).2.1, rfsT T (T.length + 1) s3, l0)) := Lib.hid (by unfold rblkT blk3; rw [hs1, hs2, hs3, hl0])
  have HBS : Hid (rblkS T s = needS T (rfsS T (T.length + 1) s3) 4 [125]) := Lib.hid (by unfold rblkS blk3; rw [hs1, hs2, hs3])
  have HK : Hid (strV (takeT T s 1 []).2.1 = .string S1) := Lib.hid (by unfold strV; rw [hS1])
  have HN : Hid (strV (takeT T s1 1 []).2.1 = .string S2) := Lib.hid (by unfold strV; rw [hS2])
  rw [HB.out, HBS.out]
  simp only
  rw [HK.out, HN.out]
  clear hW hS1 hl0 hs1 hb2 hS2 hs2 hS3 hs3 h0 h
  obtain ⟨i, f⟩ := s
  simp only at hi ZF K0
  have iz : (i : Int) < (n : Int) := by omega
  have iz0 : (0 : Int) ≤ (i : Int) := by omega
  go_enter Try.func23, Try.ntmps23
  go_upto_region 1 with fail
  rw [HW.out]
  go_cut [3] (fun s3 wx => ∃ F, s3 = .pointer (some ⟨F, 0, none⟩) ∧ Hid (Knr B g n cap T ⟨i, f⟩ w (fun W => Bk w.heap.size blkZ W ∧ Bk F #[.string ⟨#[]⟩, .string ⟨#[]⟩, .slice none 0 0, .int .i64 l0] W) wx) ∧ w.heap.size < F)
  case first =>
    have K1 := Lib.hid K0.out.drew
    have K2 := Lib.hid (K0.out.alloc (.cells #[.string ⟨#[]⟩, .string ⟨#[]⟩, .slice none 0 0, .int .i64 0] 39))
    have K3 := Lib.hid (K2.out.drew)
    have K4 := Lib.hid (K0.out.alloc (.cells #[.string ⟨#[]⟩, .string ⟨#[]⟩, .slice none 0 0, .int .i64 l0] 39))
    have K5 := Lib.hid (K4.out.drew)
    have N4 := Lib.hid (Bk.new W #[.string ⟨#[]⟩, .string ⟨#[]⟩, .slice none 0 0, .int .i64 l0] 39)
    obtain ⟨a0, a1, a2⟩ := K0.out.p.blk.three
    obtain ⟨b0, b1, b2⟩ := K1.out.p.blk.three
    obtain ⟨c0, c1, c2⟩ := K2.out.p.blk.three
    obtain ⟨d0, d1, d2⟩ := K3.out.p.blk.three
    have e0 := ZF.out _ K0.out.p
    have e1 := ZF.out _ K1.out.p
    have e2 := ZF.out _ K2.out.p
    have e3 := ZF.out _ K3.out.p
    go_region
    all_goals
      go_wp2_with fail
      go_meet
      exact ⟨W.heap.size, rfl, Lib.hid ⟨K5.out.p, ⟨K5.out.q, N4.out.keep (Below.refl _ _).drew⟩, K5.out.u, fun _ _ hu k => ⟨k.1.upd hu (by omega), k.2.upd hu (by omega)⟩⟩, hs0⟩
  case rest =>
    obtain ⟨F, rfl, hK, hFR⟩ := hcut
    have hgF : F ≠ g := by omega
    go_upto_region 3 with (go_at_call 21; ((with_reducible refine (NA.out _ hK.out.p).mono ?_); rintro e w1 ⟨rfl, hP1, hu1⟩; have K1 := Lib.hid (hK.out.step hu1 hP1); obtain ⟨c0, c1, c2, c3⟩ := K1.out.q.2.four; obtain ⟨d0, d1, d2, d3⟩ := K1.out.q.2.free4))
    have K2 := Lib.hid (Knr.put (o := 0) K1.out (by simp) (.string S1) (by omega) hgF (by omega) (by omega) (bk_off K1.out.q.1 (by omega) _) (bk_st (by omega)))
    revert K2
    generalize w1.setCell ⟨F, 0, none⟩ (.string S1) = X
    intro K2
    have K2 := Lib.hid (show Knr B g n cap T s1 w (fun W => Bk w.heap.size blkZ W ∧ Bk F #[.string S1, .string ⟨#[]⟩, .slice none 0 0, .int .i64 l0] W) X from K2.out)
    go_upto_if 20 with (go_at_call 22; ((with_reducible refine (AN.out _ K2.out.p).mono ?_); rintro e w3 ⟨rfl, hP3, hu3⟩; have K3 := Lib.hid (K2.out.step hu3 hP3)))
    go_cut [3] (fun s3 wx => s3 = .pointer (some ⟨F, 0, none⟩) ∧ Hid (Knr B g n cap T s2 w (fun W => Bk w.heap.size blkZ W ∧ Bk F #[.string S1, .string S2, .slice none 0 0, .int .i64 l0] W) wx))
    case first =>
      cases b2
      · obtain ⟨rfl, rfl⟩ := SN.out rfl
        go_wp2_with fail
        go_meet
        exact ⟨rfl, K3⟩
      · go_wp2_with (go_at_call 21; ((with_reducible refine (TN.out rfl _ K3.out.p).mono ?_); rintro e w4 ⟨rfl, hP4, hu4⟩; have K4 := Lib.hid (K3.out.step hu4 hP4); obtain ⟨c0, c1, c2, c3⟩ := K4.out.q.2.four; obtain ⟨d0, d1, d2, d3⟩ := K4.out.q.2.free4))
        go_meet
        exact ⟨rfl, Lib.hid (Knr.put (o := 1) K4.out (by simp) (.string S2) (by omega) hgF (by omega) (by omega) (bk_off K4.out.q.1 (by omega) _) (bk_st (by omega)))⟩
    case rest =>
    obtain ⟨rfl, hK3⟩ := hcut
    go_wp2_with (go_at_call 21; ((with_reducible refine (NC.out _ hK3.out.p).mono ?_); rintro e w5 ⟨rfl, hP5, hu5⟩; have K7 := Lib.hid (hK3.out.step hu5 hP5)))
    have hF5 := K7.out.q.2.1
    have K8 := Lib.hid (show Knr B g n cap T s3 w (QB w.heap.size F w5.heap.size S1 S2 l0 (.slice none 0 0) [] []) w5 from ⟨K7.out.p, ⟨K7.out.q.1, K7.out.q.2, Lst.nil w5⟩, K7.out.u, QB.st (by omega) (by omega) (by omega)⟩)
    go_loopw [26] (fun _ wr => ∃ fu : Nat, ∃ sx : St, ∃ fs : List Fld, ∃ css u, fs.length + fu = n + 1 ∧ n ≤ fu + sx.i ∧ (sx.f = 0 → n + 1 ≤ fu + sx.i) ∧ Hid (w5.heap.size ≤ wr.heap.size) ∧ Hid (Knr B g n cap T sx w (QB w.heap.size F w5.heap.size S1 S2 l0 u fs css) wr) ∧ Hid (rfsT T (T.length + 1) s3 = fs ++ rfsT T fu sx) ∧ Hid (rfsS T (T.length + 1) s3 = rfsS T fu sx)) (fun _ wr => remQ n B wr)
    case atStart => exact ⟨n + 1, s3, [], [], _, by simp, by omega, (fun _ => by omega), Lib.hid (Nat.le_refl _), Lib.hid K8.out, Lib.hid (by rw [HTL.out]; rfl), Lib.hid (by rw [HTL.out])⟩
    case round =>
      obtain ⟨fu, sx, fs, css, u, hv1, hv2, hv3, KW5, hKx, hcT, hcS⟩ := hrel
      have hsi := hKx.out.p.i
      obtain ⟨pu, nu, cu, eu⟩ := own_sl hKx.out.q.2.2.own
      subst eu
      have hrem := remQ_rdr hKx.out.p
      have hix : sx.i < T.length := by omega
      obtain ⟨k0, k1, k2⟩ := hKx.out.p.blk.three
      by_cases hf : sx.f = 0
      · have hfb : ((sx.f : Int) == 0) = true := by rw [beq_iff_eq]; omega
        obtain ⟨b, hb⟩ : ∃ b, isP T sx 4 [125] = b := ⟨_, rfl⟩
        have TA := Lib.hid (at_v hT hKx.out.p 4 ⟨#[125]⟩ hb)
        have hgo : goesOn T sx = !b := by unfold goesOn; rw [hb, hf]; rfl
        cases b
        · obtain ⟨fu, rfl⟩ : ∃ f, fu = f + 1 := ⟨fu - 1, by omega⟩
          obtain ⟨e1, e2⟩ := rfsT_yes (f := fu) hgo
          have hmore := fldS_goes hT hix
          have hmono := fldS_mono T sx
          obtain ⟨sz, hsz⟩ : ∃ x, fldS T sx = x := ⟨_, rfl⟩
          obtain ⟨y, hy⟩ : ∃ x, rfldT T sx = x := ⟨_, rfl⟩
          obtain ⟨SY, hSY⟩ : ∃ S : ByteArray, strV (rfldT T sx).1 = .string S := ⟨_, rfl⟩
          obtain ⟨ly, hly⟩ : ∃ l, (rfldT T sx).2.2 = l := ⟨_, rfl⟩
          have FV := Lib.hid (fun w' (g' : Rdr B g n cap T sx w') => rfield_v hT g' hSY hly)
          rw [hsz, hy] at FV
          rw [hsz] at e1 e2 hmore hmono
          rw [hy] at e1
          have HE1 : Hid (rfsT T (T.length + 1) s3 = (fs ++ [y]) ++ rfsT T fu sz) := Lib.hid (by rw [hcT.out, e1, List.append_assoc]; rfl)
          have HE2 : Hid (rfsS T (T.length + 1) s3 = rfsS T fu sz) := Lib.hid (by rw [hcS.out, e2])
          rw [if_pos hf] at hrem
          have hv4 := hv3 hf
          have HREM : Hid (remQ n B wr = n - sx.i + 1) := Lib.hid hrem
          clear hb e1 e2 hsz hy hSY hly hgo hrem
          obtain ⟨wo, rfl⟩ : ∃ x, x = wr := ⟨_, rfl⟩
          go_wp2_with (go_at_call 22; ((with_reducible refine (TA.out).mono ?_); rintro e w6 ⟨rfl, hP6, hu6⟩; have K9 := Lib.hid (hKx.out.step hu6 hP6)))
          have KD := Lib.hid K9.out.drew
          have hbD : w5.heap.size ≤ w6.drew.heap.size := Nat.le_trans (Nat.le_of_eq rfl) (by have := KW5.out; exact Nat.le_trans this (Nat.le_trans hu6.below.size (Nat.le_of_eq rfl)))
          obtain ⟨a0, a1, a2, a3⟩ := KD.out.q.2.1.four
          go_region_law (first
            | (refine step_append_lst erF (by rfl) (by rfl) KB.out.q.2.2 (by rfl) (by rfl) (c := [.string SY, .slice p8 m8 c8, .int .i64 ly]) (fun j u h => alloc_cell _ _ _ _ j u (by simpa using h)) (by rfl) (by simp [Value.oneCell']) (by omega) (by omega) hle8 (y := y) HEl.out ?_; intro v9 w9 hL9 hb9 hg9 hv9; have KG := Lib.hid (QB.growR KB.out (by omega) (by omega) hBw (by omega) (by omega) hg (by omega) (by omega) hL9 hb9 rfl); obtain ⟨x0, x1, x2, x3⟩ := (QB.after KB.out.q hb9 (by omega)).four; obtain ⟨y0, y1, y2, y3⟩ := (QB.after KB.out.q hb9 (by omega)).free4; obtain ⟨p9, n9, c9, e9⟩ := own_sl hL9.own; subst e9)
            | (go_simp; go_wp2_with (go_at_call 38; ((with_reducible refine (FV.out _ KD.out.p).mono ?_); rintro e w8 ⟨p8, m8, c8, rfl, hM8, hP8, hu8⟩; have KA := Lib.hid (KD.out.step hu8 hP8); have KB := Lib.hid (KA.out.alloc (.cells #[.string SY, .slice p8 m8 c8, .int .i64 ly] 42)); have hle8 : w5.heap.size ≤ (w8.alloc (.cells #[.string SY, .slice p8 m8 c8, .int .i64 ly] 42)).heap.size := Nat.le_trans hbD (Nat.le_trans hu8.below.size (by simp)); have HEl := Lib.hid (fresh_elt' KD.out.q.2.2 (hM8.out.keep ((Below.refl w8.heap.size w8).alloc (Nat.le_refl _) (.cells #[.string SY, .slice p8 m8 c8, .int .i64 ly] 42))) hbD); obtain ⟨b0, b1, b2, b3⟩ := KA.out.q.2.1.four; obtain ⟨c0, c1, c2, c3⟩ := KB.out.q.2.1.four))))
          all_goals
            go_wp2_with fail
            exact ⟨⟨fu, sz, fs ++ [y], _, _, by rw [List.length_append, List.length_singleton]; omega, by omega, (fun h0 => by rcases hmore with h1 | h1 <;> omega), Lib.hid (by have := hb9.size; simp only [World.size_setCell]; exact Nat.le_trans hle8 this), Lib.hid KG.out, HE1, HE2⟩, by rw [remQ_rdr KG.out.p, HREM.out]; have := KG.out.p.i; split <;> rcases hmore with h1 | h1 <;> omega⟩
        · have hgo : goesOn T sx = false := hgo
          obtain ⟨e1, e2⟩ := rfsT_no (f := fu) hgo
          have HE1 : Hid (rfsT T (T.length + 1) s3 = fs) := Lib.hid (by rw [hcT.out, e1, List.append_nil])
          have HE2 : Hid (rfsS T (T.length + 1) s3 = sx) := Lib.hid (by rw [hcS.out, e2])
          obtain ⟨S5, hS5⟩ : ∃ S : ByteArray, (⟨(takeT T sx 4 [125]).2.1.toArray⟩ : ByteArray) = S := ⟨_, rfl⟩
          have NE := Lib.hid (fun w' (g' : Rdr B g n cap T sx w') => rtake_v hT g' 4 ⟨#[125]⟩ hS5 rfl)
          rw [show (⟨#[125]⟩ : ByteArray).data.toList = [125] from rfl] at NE
          clear hgo hb e1 e2 hS5
          obtain ⟨wo, rfl⟩ : ∃ x, x = wr := ⟨_, rfl⟩
          go_wp2_with (first
              | (go_at_call 22; ((with_reducible refine (TA.out).mono ?_); rintro e w6 ⟨rfl, hP6, hu6⟩; have K9 := Lib.hid (hKx.out.step hu6 hP6)))
              | (go_at_call 21; ((with_reducible refine (NE.out _ K9.out.p).mono ?_); rintro e w7 ⟨rfl, hP7, hu7⟩; have KE := Lib.hid (K9.out.step hu7 hP7); obtain ⟨c0, c1, c2, c3⟩ := KE.out.q.2.1.four; obtain ⟨r0, r1, r2, r3⟩ := (show Bk w.heap.size #[.string ⟨#[]⟩, .string ⟨#[]⟩, .slice none 0 0, .int .i64 0] w7 from KE.out.q.1).four; obtain ⟨f0, f1, f2, f3⟩ := KE.out.q.1.free4)))
          refine bodyPost_ret (v := .agg #[.string S1, .string S2, .slice pu nu cu, .int .i64 l0]) (by simp [results, Try.results23, go_sem, r0, r1, r2, r3]) rfl ?_
          have hu9 := (((KE.out.u.off (b := w.heap.size) (o := 0) (v := .string S1) (Nat.le_refl _) (by omega)).off (b := w.heap.size) (o := 1) (v := .string S2) (Nat.le_refl _) (by omega)).off (b := w.heap.size) (o := 2) (v := .slice pu nu cu) (Nat.le_refl _) (by omega)).off (b := w.heap.size) (o := 3) (v := .int .i64 l0) (Nat.le_refl _) (by omega)
          have hp9 := (((hP7.off (b := w.heap.size) (o := 0) (v := .string S1) (by omega) (by omega)).off (b := w.heap.size) (o := 1) (v := .string S2) (by omega) (by omega)).off (b := w.heap.size) (o := 2) (v := .slice pu nu cu) (by omega) (by omega)).off (b := w.heap.size) (o := 3) (v := .int .i64 l0) (by omega) (by omega)
          have hl9 := Lst.set_ (F := w.heap.size) (o := 3) (x := .int .i64 l0) (Lst.set_ (F := w.heap.size) (o := 2) (x := .slice pu nu cu) (Lst.set_ (F := w.heap.size) (o := 1) (x := .string S2) (Lst.set_ (F := w.heap.size) (o := 0) (x := .string S1) KE.out.q.2.2 (by omega) (by omega)) (by omega) (by omega)) (by omega) (by omega)) (by omega) (by omega)
          exact ⟨_, _, _, rfl, ⟨_, by rw [HE1.out]; exact Lst.down hl9 (by omega)⟩, by rw [HE2.out]; exact hp9, hu9⟩

      · have hfb : ((sx.f : Int) == 0) = false := by rw [beq_eq_false_iff_ne]; omega
        have hgo : goesOn T sx = false := by unfold goesOn; rw [show (sx.f == 0) = false by rw [beq_eq_false_iff_ne]; exact hf]; rfl
        have K9 := Lib.hid hKx.out
        obtain ⟨e1, e2⟩ := rfsT_no (f := fu) hgo
        have HE1 : Hid (rfsT T (T.length + 1) s3 = fs) := Lib.hid (by rw [hcT.out, e1, List.append_nil])
        have HE2 : Hid (rfsS T (T.length + 1) s3 = sx) := Lib.hid (by rw [hcS.out, e2])
        obtain ⟨S5, hS5⟩ : ∃ S : ByteArray, (⟨(takeT T sx 4 [125]).2.1.toArray⟩ : ByteArray) = S := ⟨_, rfl⟩
        have NE := Lib.hid (fun w' (g' : Rdr B g n cap T sx w') => rtake_v hT g' 4 ⟨#[125]⟩ hS5 rfl)
        rw [show (⟨#[125]⟩ : ByteArray).data.toList = [125] from rfl] at NE
        clear hgo e1 e2 hS5
        obtain ⟨wo, rfl⟩ : ∃ x, x = wr := ⟨_, rfl⟩
        go_wp2_with (go_at_call 21; ((with_reducible refine (NE.out _ K9.out.p).mono ?_); rintro e w7 ⟨rfl, hP7, hu7⟩; have KE := Lib.hid (K9.out.step hu7 hP7); obtain ⟨c0, c1, c2, c3⟩ := KE.out.q.2.1.four; obtain ⟨r0, r1, r2, r3⟩ := (show Bk w.heap.size #[.string ⟨#[]⟩, .string ⟨#[]⟩, .slice none 0 0, .int .i64 0] w7 from KE.out.q.1).four; obtain ⟨f0, f1, f2, f3⟩ := KE.out.q.1.free4))
        refine bodyPost_ret (v := .agg #[.string S1, .string S2, .slice pu nu cu, .int .i64 l0]) (by simp [results, Try.results23, go_sem, r0, r1, r2, r3]) rfl ?_
        have hu9 := (((KE.out.u.off (b := w.heap.size) (o := 0) (v := .string S1) (Nat.le_refl _) (by omega)).off (b := w.heap.size) (o := 1) (v := .string S2) (Nat.le_refl _) (by omega)).off (b := w.heap.size) (o := 2) (v := .slice pu nu cu) (Nat.le_refl _) (by omega)).off (b := w.heap.size) (o := 3) (v := .int .i64 l0) (Nat.le_refl _) (by omega)
        have hp9 := (((hP7.off (b := w.heap.size) (o := 0) (v := .string S1) (by omega) (by omega)).off (b := w.heap.size) (o := 1) (v := .string S2) (by omega) (by omega)).off (b := w.heap.size) (o := 2) (v := .slice pu nu cu) (by omega) (by omega)).off (b := w.heap.size) (o := 3) (v := .int .i64 l0) (by omega) (by omega)
        have hl9 := Lst.set_ (F := w.heap.size) (o := 3) (x := .int .i64 l0) (Lst.set_ (F := w.heap.size) (o := 2) (x := .slice pu nu cu) (Lst.set_ (F := w.heap.size) (o := 1) (x := .string S2) (Lst.set_ (F := w.heap.size) (o := 0) (x := .string S1) KE.out.q.2.2 (by omega) (by omega)) (by omega) (by omega)) (by omega) (by omega)) (by omega) (by omega)
        exact ⟨_, _, _, rfl, ⟨_, by rw [HE1.out]; exact Lst.down hl9 (by omega)⟩, by rw [HE2.out]; exact hp9, hu9⟩

end Go.Proofs.Ythdcgplocdehjaa
