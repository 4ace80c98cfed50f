/- The parser: block, its walk. -/
import Derived.Test.YthdcgplocdehjaaSg
namespace Go.Proofs.Ythdcgplocdehjaa
open Go.RowKit Go.Proofs.Kit

set_option maxRecDepth 100000 in
set_option maxHeartbeats 8000000 in
theorem block_c {B g n cap : Nat} {T : List Tok} {s : St} {w : World} (hT : TOk T) (h : Prs B g n cap T s w) :
    Calls Try.prog 20 #[.pointer (some ⟨B, 0, none⟩)] w fun e w' => ∃ p m c, e = .returned (.agg #[strV (blkT T s).1, strV (blkT T s).2.1, .slice p m c, .int .i64 (blkT T s).2.2.2]) ∧ (∃ css, Lst fldR w.heap.size w.heap.size 42 3 (.slice p m c) w' (blkT T s).2.2.1 css) ∧ Prs B g n cap T (blkS T s) w' ∧ Upd B w w' := by
  have hBw : B < w.heap.size := h.blk.1
  have hBd : Below w.heap.size w (w.alloc (.cells #[.string ⟨#[]⟩, .string ⟨#[]⟩, .slice none 0 0, .int .i64 0] 39)) := (Below.refl _ _).alloc (Nat.le_refl _) _
  have R0 := Lib.hid (Bk.new w #[.string ⟨#[]⟩, .string ⟨#[]⟩, .slice none 0 0, .int .i64 0] 39)
  have h0 := h.keep hBd
  have hg := h.glt
  have hTl := h.len
  have hTn := hT.num
  have HTL := Lib.hid hTl
  obtain ⟨W, hW⟩ : ∃ W, w.alloc (.cells #[.string ⟨#[]⟩, .string ⟨#[]⟩, .slice none 0 0, .int .i64 0] 39) = W := ⟨_, rfl⟩
  rw [hW] at hBd R0 h0
  have HW := Lib.hid hW
  have hs0 := R0.out.1
  have K0 := Lib.hid (show Kn B g n cap T s w (Bk w.heap.size blkZ) W from ⟨h0, R0.out, Upd.of hBd (by omega), bk_st (by omega)⟩)
  -- kind
  obtain ⟨S1, hS1⟩ : ∃ S : ByteArray, (⟨(takeT T s 1 []).2.1.toArray⟩ : ByteArray) = S := ⟨_, rfl⟩
  obtain ⟨l1, hl1⟩ : ∃ l, (takeT T s 1 []).2.2 = l := ⟨_, rfl⟩
  have NA := need_c hT h0 1 ⟨#[]⟩
  rw [Lib.toList_data, show (⟨#[]⟩ : ByteArray).data.toList = [] from rfl, tokV_eq _ rfl hS1 hl1] at NA
  obtain ⟨k1, hk1⟩ : ∃ k, (takeT T s 1 []).1 = k := ⟨_, rfl⟩
  obtain ⟨s1, hs1⟩ : ∃ x, needS T s 1 [] = x := ⟨_, rfl⟩
  rw [hk1, hs1] at NA
  have NA := Lib.hid NA
  -- name
  obtain ⟨b2, hb2⟩ : ∃ b, isP T s1 1 [] = b := ⟨_, rfl⟩
  obtain ⟨S2, hS2⟩ : ∃ S : ByteArray, (⟨(takeT T s1 1 []).2.1.toArray⟩ : ByteArray) = S := ⟨_, rfl⟩
  have TB := Lib.hid (fun w' (g' : Prs B g n cap T s1 w') => take_v hT g' 1 ⟨#[]⟩ hb2 hS2)
  rw [show (⟨#[]⟩ : ByteArray).data.toList = [] from rfl] at TB
  obtain ⟨s2, hs2⟩ : ∃ x, takeS T s1 1 [] = x := ⟨_, rfl⟩
  rw [hs2] at TB
  obtain ⟨S3, hS3⟩ : ∃ S : ByteArray, (⟨(takeT T s2 4 [123]).2.1.toArray⟩ : ByteArray) = S := ⟨_, rfl⟩
  have NC := Lib.hid (fun w' (g' : Prs B g n cap T s2 w') => need_v hT g' 4 ⟨#[123]⟩ hS3)
  obtain ⟨s3, hs3⟩ : ∃ x, needS T s2 4 [123] = x := ⟨_, rfl⟩
  rw [show (⟨#[123]⟩ : ByteArray).data.toList = [123] from rfl, hs3] at NC
  have HB : Hid (blkT T s = ((takeT T s 1 []).2.1, (takeT T s1 1 []).2.1, fsT T T.length s3, l1)) := Lib.hid (by unfold blkT blk3; rw [hs1, hs2, hs3, hl1])
  have HBS : Hid (blkS T s = needS T (fsS T T.length s3) 4 [125]) := Lib.hid (by unfold blkS blk3; rw [hs1, hs2, hs3])
  have HK : Hid (strV (takeT T s 1 []).2.1 = .string S1) := Lib.hid (by unfold strV; rw [hS1])
  have HN : Hid (strV (takeT T s1 1 []).2.1 = .string S2) := Lib.hid (by unfold strV; rw [hS2])
  rw [HB.out, HBS.out]
  simp only
  rw [HK.out, HN.out]
  clear hW hS1 hl1 hk1 hs1 hb2 hS2 hs2 hS3 hs3 h0
  go_enter Try.func20, Try.ntmps20
  go_upto_region 1 with fail
  rw [HW.out]
  go_upto_region 2 with (go_at_call 18; ((with_reducible refine (NA.out).mono ?_); rintro e w1 ⟨rfl, hP1, hu1⟩; have K1 := Lib.hid (K0.out.step hu1 hP1)))
  have N1 := Lib.hid (Bk.new w1 #[.int .i64 k1, .string S1, .int .i64 l1] 47)
  have K2 := Lib.hid ((K1.out.alloc (.cells #[.int .i64 k1, .string S1, .int .i64 l1] 47)).with_ (R := Bk w1.heap.size #[.int .i64 k1, .string S1, .int .i64 l1]) N1.out (bk_st (by have := K1.out.u.below.size; omega)))
  have hw1 := K1.out.u.below.size
  revert K2
  clear N1
  generalize w1.alloc (.cells #[.int .i64 k1, .string S1, .int .i64 l1] 47) = X
  intro K2
  obtain ⟨k2, l2, TB1⟩ := TB.out _ K2.out.p
  have TB1 := Lib.hid TB1
  go_upto_region 3 with (go_at_call 35; ((with_reducible refine (TB1.out).mono ?_); rintro e w3 ⟨rfl, hP3, hu3⟩; have K3 := Lib.hid (K2.out.step hu3 hP3)))
  have hw3 := K3.out.u.below.size
  have N3 := Lib.hid (Bk.new w3 #[.int .i64 k2, .string S2, .int .i64 l2] 47)
  have K4 := Lib.hid ((K3.out.alloc (.cells #[.int .i64 k2, .string S2, .int .i64 l2] 47)).with_ (R := Bk w3.heap.size #[.int .i64 k2, .string S2, .int .i64 l2]) N3.out (bk_st (by omega)))
  revert K4
  clear N3
  generalize w3.alloc (.cells #[.int .i64 k2, .string S2, .int .i64 l2] 47) = Y
  intro K4
  have hY1 := K4.out.q.2.1
  obtain ⟨a0, a1, a2⟩ := K4.out.q.1.2.three
  obtain ⟨b0, b1, b2⟩ := K4.out.q.2.three
  have K5 := Lib.hid ((K4.out.alloc (.cells #[.string S1, .string S2, .slice none 0 0, .int .i64 l1] 39)).with_ (R := Bk Y.heap.size #[.string S1, .string S2, .slice none 0 0, .int .i64 l1]) (Bk.new Y #[.string S1, .string S2, .slice none 0 0, .int .i64 l1] 39) (bk_st (by omega)))
  have K6 := Lib.hid (K5.out.weak (R := fun W => Bk w.heap.size blkZ W ∧ Bk Y.heap.size #[.string S1, .string S2, .slice none 0 0, .int .i64 l1] W) (fun q => ⟨q.1.1.1, q.2⟩) (fun _ _ hu k => ⟨k.1.upd hu (by omega), k.2.upd hu (by omega)⟩))
  obtain ⟨k3, l3, NC1⟩ := NC.out _ K6.out.p
  have NC1 := Lib.hid NC1
  go_wp2_with (go_at_call 18; ((with_reducible refine (NC1.out).mono ?_); rintro e w5 ⟨rfl, hP5, hu5⟩; have K7 := Lib.hid (K6.out.step hu5 hP5)))
  have hF5 := K7.out.q.2.1
  have K8 := Lib.hid (show Kn B g n cap T s3 w (QB w.heap.size Y.heap.size w5.heap.size S1 S2 l1 (.slice none 0 0) [] []) w5 from ⟨K7.out.p, ⟨K7.out.q.1, K7.out.q.2, Lst.nil w5⟩, K7.out.u, QB.st (by omega) (by omega) (by omega)⟩)
  go_loopw [24] (fun _ wr => ∃ fu : Nat, ∃ sx : St, ∃ fs : List Fld, ∃ css u, fs.length + fu = n ∧ n ≤ fu + sx.i ∧ Hid (w5.heap.size ≤ wr.heap.size) ∧ Hid (Kn B g n cap T sx w (QB w.heap.size Y.heap.size w5.heap.size S1 S2 l1 u fs css) wr) ∧ Hid (fsT T T.length s3 = fs ++ fsT T fu sx) ∧ Hid (fsS T T.length s3 = fsS T fu sx)) (fun _ wr => remN B wr)
  case atStart => exact ⟨n, s3, [], [], _, by simp, by omega, Lib.hid (Nat.le_refl _), Lib.hid K8.out, Lib.hid (by rw [HTL.out]; rfl), Lib.hid (by rw [HTL.out])⟩
  case round =>
    obtain ⟨fu, sx, fs, css, u, hv1, hv2, KW5, hKx, hcT, hcS⟩ := hrel
    have hsi := hKx.out.p.i
    obtain ⟨pu, nu, cu, eu⟩ := own_sl hKx.out.q.2.2.own
    subst eu
    obtain ⟨b, hb⟩ : ∃ b, isP T sx 1 [] = b := ⟨_, rfl⟩
    have IS := is_c hKx.out.p 1 ⟨#[]⟩
    rw [Lib.toList_data, show (⟨#[]⟩ : ByteArray).data.toList = [] from rfl, hb] at IS
    have IS := Lib.hid IS
    have hBr := hKx.out.le
    cases b
    · obtain ⟨e1, e2⟩ := fsT_no (f := fu) hb
      have HE1 : Hid (fsT T T.length s3 = fs) := Lib.hid (by rw [hcT.out, e1, List.append_nil])
      have HE2 : Hid (fsS T T.length s3 = sx) := Lib.hid (by rw [hcS.out, e2])
      obtain ⟨S5, hS5⟩ : ∃ S : ByteArray, (⟨(takeT T sx 4 [125]).2.1.toArray⟩ : ByteArray) = S := ⟨_, rfl⟩
      have NE := Lib.hid (fun w' (g' : Prs B g n cap T sx w') => need_v hT g' 4 ⟨#[125]⟩ hS5)
      rw [show (⟨#[125]⟩ : ByteArray).data.toList = [125] from rfl] at NE
      clear hb e1 e2 hS5
      obtain ⟨wo, rfl⟩ : ∃ x, x = wr := ⟨_, rfl⟩
      go_wp2_with (go_at_call 19; ((with_reducible refine (IS.out).mono ?_); rintro e w6 ⟨rfl, hb6⟩; have K9 := Lib.hid (hKx.out.step (Upd.of hb6 hBr) (hKx.out.p.keep hb6))))
      obtain ⟨k5, l5, NE1⟩ := NE.out _ K9.out.p
      have NE1 := Lib.hid NE1
      go_wp2_with (go_at_call 18; ((with_reducible refine (NE1.out).mono ?_); rintro e w7 ⟨rfl, hP7, hu7⟩; have KE := Lib.hid (K9.out.step hu7 hP7); obtain ⟨c0, c1, c2, c3⟩ := KE.out.q.2.1.four; obtain ⟨r0, r1, r2, r3⟩ := (show Bk w.heap.size #[.string ⟨#[]⟩, .string ⟨#[]⟩, .slice none 0 0, .int .i64 0] w7 from KE.out.q.1).four; obtain ⟨f0, f1, f2, f3⟩ := KE.out.q.1.free4))
      refine bodyPost_ret (v := .agg #[.string S1, .string S2, .slice pu nu cu, .int .i64 l1]) (by simp [results, Try.results20, go_sem, r0, r1, r2, r3]) rfl ?_
      have hu9 := (((KE.out.u.off (b := w.heap.size) (o := 0) (v := .string S1) (Nat.le_refl _) (by omega)).off (b := w.heap.size) (o := 1) (v := .string S2) (Nat.le_refl _) (by omega)).off (b := w.heap.size) (o := 2) (v := .slice pu nu cu) (Nat.le_refl _) (by omega)).off (b := w.heap.size) (o := 3) (v := .int .i64 l1) (Nat.le_refl _) (by omega)
      have hp9 := (((hP7.off (b := w.heap.size) (o := 0) (v := .string S1) (by omega) (by omega)).off (b := w.heap.size) (o := 1) (v := .string S2) (by omega) (by omega)).off (b := w.heap.size) (o := 2) (v := .slice pu nu cu) (by omega) (by omega)).off (b := w.heap.size) (o := 3) (v := .int .i64 l1) (by omega) (by omega)
      have hl9 := Lst.set_ (F := w.heap.size) (o := 3) (x := .int .i64 l1) (Lst.set_ (F := w.heap.size) (o := 2) (x := .slice pu nu cu) (Lst.set_ (F := w.heap.size) (o := 1) (x := .string S2) (Lst.set_ (F := w.heap.size) (o := 0) (x := .string S1) KE.out.q.2.2 (by omega) (by omega)) (by omega) (by omega)) (by omega) (by omega)) (by omega) (by omega)
      exact ⟨_, _, _, rfl, ⟨_, by rw [HE1.out]; exact Lst.down hl9 (by omega)⟩, by rw [HE2.out]; exact hp9, hu9⟩
    · obtain ⟨fu, rfl⟩ : ∃ f, fu = f + 1 := ⟨fu - 1, by omega⟩
      obtain ⟨e1, e2⟩ := fsT_yes (f := fu) hb
      have hmore := fldS_more hb
      obtain ⟨sz, hsz⟩ : ∃ x, fldS T sx = x := ⟨_, rfl⟩
      obtain ⟨y, hy⟩ : ∃ x, fldT T sx = x := ⟨_, rfl⟩
      obtain ⟨SY, hSY⟩ : ∃ S : ByteArray, strV (fldT T sx).1 = .string S := ⟨_, rfl⟩
      obtain ⟨ly, hly⟩ : ∃ l, (fldT T sx).2.2 = l := ⟨_, rfl⟩
      have FV := Lib.hid (fun w' (g' : Prs B g n cap T sx w') => field_v hT g' hSY hly)
      rw [hsz, hy] at FV
      rw [hsz] at e1 e2 hmore
      rw [hy] at e1
      have HE1 : Hid (fsT T T.length s3 = (fs ++ [y]) ++ fsT T fu sz) := Lib.hid (by rw [hcT.out, e1, List.append_assoc]; rfl)
      have HE2 : Hid (fsS T T.length s3 = fsS T fu sz) := Lib.hid (by rw [hcS.out, e2])
      have hrem := remN_prs hKx.out.p
      clear hb e1 e2 hsz hy hSY hly
      obtain ⟨wo, rfl⟩ : ∃ x, x = wr := ⟨_, rfl⟩
      go_wp2_with (go_at_call 19; ((with_reducible refine (IS.out).mono ?_); rintro e w6 ⟨rfl, hb6⟩; have K9 := Lib.hid (hKx.out.step (Upd.of hb6 hBr) (hKx.out.p.keep hb6))))
      have KD := Lib.hid K9.out.drew
      have hbD : w5.heap.size ≤ w6.drew.heap.size := Nat.le_trans (Nat.le_of_eq rfl) (by have := KW5.out; exact Nat.le_trans this (Nat.le_trans hb6.size (Nat.le_of_eq rfl)))
      obtain ⟨a0, a1, a2, a3⟩ := KD.out.q.2.1.four
      go_region_law (first
        | (refine step_append_lst erF (by rfl) (by rfl) KB.out.q.2.2 (by rfl) (by rfl) (c := [.string SY, .slice p8 m8 c8, .int .i64 ly]) (fun j u h => alloc_cell _ _ _ _ j u (by simpa using h)) (by rfl) (by simp [Value.oneCell']) (by omega) (by omega) hle8 (y := y) HEl.out ?_; intro v9 w9 hL9 hb9 hg9 hv9; have KG := Lib.hid (QB.grow KB.out (by omega) (by omega) hBw (by omega) (by omega) hg (by omega) (by omega) hL9 hb9 rfl); obtain ⟨x0, x1, x2, x3⟩ := (QB.after KB.out.q hb9 (by omega)).four; obtain ⟨y0, y1, y2, y3⟩ := (QB.after KB.out.q hb9 (by omega)).free4; obtain ⟨p9, n9, c9, e9⟩ := own_sl hL9.own; subst e9)
        | (go_simp; go_wp2_with (go_at_call 37; ((with_reducible refine (FV.out _ KD.out.p).mono ?_); rintro e w8 ⟨p8, m8, c8, rfl, hM8, hP8, hu8⟩; have KA := Lib.hid (KD.out.step hu8 hP8); have KB := Lib.hid (KA.out.alloc (.cells #[.string SY, .slice p8 m8 c8, .int .i64 ly] 42)); have hle8 : w5.heap.size ≤ (w8.alloc (.cells #[.string SY, .slice p8 m8 c8, .int .i64 ly] 42)).heap.size := Nat.le_trans hbD (Nat.le_trans hu8.below.size (by simp)); have HEl := Lib.hid (fresh_elt' KD.out.q.2.2 (hM8.out.keep ((Below.refl w8.heap.size w8).alloc (Nat.le_refl _) (.cells #[.string SY, .slice p8 m8 c8, .int .i64 ly] 42))) hbD); obtain ⟨b0, b1, b2, b3⟩ := KA.out.q.2.1.four; obtain ⟨c0, c1, c2, c3⟩ := KB.out.q.2.1.four))))
      all_goals
        go_wp2_with fail
        exact ⟨⟨fu, sz, fs ++ [y], _, _, by rw [List.length_append, List.length_singleton]; omega, by omega, Lib.hid (by have := hb9.size; simp only [World.size_setCell]; exact Nat.le_trans hle8 this), Lib.hid KG.out, HE1, HE2⟩, by rw [remN_prs KG.out.p, hrem]; have := KG.out.p.i; omega⟩

end Go.Proofs.Ythdcgplocdehjaa
