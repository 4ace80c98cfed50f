import Derived.Test.YthdcgplocdehjaaQe
/- The reference's reader: block; what its walk needs. -/
namespace Go.Proofs.Ythdcgplocdehjaa
open Go.RowKit Go.Proofs.Kit

theorem needS_bad {T : List Tok} {s : St} {kind : Int} {text : List UInt8} (h : s.f ≠ 0) : needS T s kind text = s := by rw [needS_no (isP_fault h)]; unfold failP; rw [if_neg h]
theorem takeS_bad {T : List Tok} {s : St} {kind : Int} {text : List UInt8} (h : s.f ≠ 0) : takeS T s kind text = s := takeS_no (isP_fault h)
theorem valS_bad {T : List Tok} {s : St} (h : s.f ≠ 0) : valS T s = s := by
  unfold valS
  rw [if_neg (by rw [isP_fault h]; simp), if_neg (by rw [isP_fault h]; simp), needS_bad h, if_neg (by rw [isP_fault h]; simp)]
theorem comS_bad {T : List Tok} {f : Nat} {s : St} (h : s.f ≠ 0) : comS T f s = s := (comT_no (isP_fault h)).2
theorem fldS_bad {T : List Tok} {s : St} (h : s.f ≠ 0) : fldS T s = s := by
  unfold fldS
  rw [needS_bad h, valS_bad h, comS_bad h, needS_bad h]
theorem failP_f {T : List Tok} {s : St} (hT : TOk T) (hi : s.i < T.length) : (failP T s).f ≠ 0 := by
  unfold failP
  split
  · have := (hT.line s.i hi).1
    show (tk T s.i).2.2 ≠ 0
    omega
  · assumption
theorem failP_i (T : List Tok) (s : St) : (failP T s).i = s.i := by unfold failP; split <;> rfl
theorem fldS_no {T : List Tok} {s : St} (hT : TOk T) (hi : s.i < T.length) (h : isP T s 1 [] = false) : fldS T s = failP T s := by
  have hf := failP_f (s := s) hT hi
  unfold fldS
  rw [needS_no h, valS_bad hf, comS_bad hf, needS_bad hf]
/-- A field goes on, or fails. -/
theorem fldS_goes {T : List Tok} {s : St} (hT : TOk T) (hi : s.i < T.length) : s.i + 1 ≤ (fldS T s).i ∨ (fldS T s).f ≠ 0 := by
  cases h : isP T s 1 []
  · rw [fldS_no hT hi h]; exact .inr (failP_f hT hi)
  · exact .inl (fldS_more h)
/-- A field as the reference reads it. -/
def rfldT (T : List Tok) (s : St) : Fld := ((fldT T s).1, (fldT T s).2.1, (tk T s.i).2.2)
def goesOn (T : List Tok) (s : St) : Bool := s.f == 0 && !(isP T s 4 [125])
def rfsT (T : List Tok) : Nat → St → List Fld
  | 0, _ => []
  | f + 1, s => if goesOn T s then rfldT T s :: rfsT T f (fldS T s) else []
def rfsS (T : List Tok) : Nat → St → St
  | 0, s => s
  | f + 1, s => if goesOn T s then rfsS T f (fldS T s) else s
theorem rfsT_no {T : List Tok} {f : Nat} {s : St} (h : goesOn T s = false) : rfsT T f s = [] ∧ rfsS T f s = s := by
  cases f with
  | zero => exact ⟨rfl, rfl⟩
  | succ f => unfold rfsT rfsS; rw [if_neg (by rw [h]; simp), if_neg (by rw [h]; simp)]; exact ⟨rfl, rfl⟩
theorem rfsT_yes {T : List Tok} {f : Nat} {s : St} (h : goesOn T s = true) : rfsT T (f + 1) s = rfldT T s :: rfsT T f (fldS T s) ∧ rfsS T (f + 1) s = rfsS T f (fldS T s) := by
  refine ⟨?_, ?_⟩
  · conv => lhs; unfold rfsT
    rw [if_pos h]
  · conv => lhs; unfold rfsS
    rw [if_pos h]
def rblkT (T : List Tok) (s : St) : BlkP := ((takeT T s 1 []).2.1, (takeT T (needS T s 1 []) 1 []).2.1, rfsT T (T.length + 1) (blk3 T s), (tk T s.i).2.2)
def rblkS (T : List Tok) (s : St) : St := needS T (rfsS T (T.length + 1) (blk3 T s)) 4 [125]

theorem QB.growR {B g n cap R F b0 : Nat} {T : List Tok} {s : St} {w W W' W2 : World} {S N : ByteArray} {l : Nat} {u v' : Value} {fs : List Fld} {css : List (List Value)} {y : Fld} {c : List Value} (h : Knr B g n cap T s w (QB R F b0 S N l u fs css) W) (hR : R ≠ B) (hF : F ≠ B) (hB : B < w.heap.size) (hRF : R ≠ F) (hF2 : w.heap.size ≤ F) (hgw : g < w.heap.size) (hRb : R < b0) (hFb : F < b0)
    (hL : Lst fldR b0 b0 42 3 v' W' (fs ++ [y]) (css ++ [c])) (hb : Below b0 W W') (e : W2 = W'.setCell ⟨F, 2, none⟩ v') :
    Knr B g n cap T s w (QB R F b0 S N l v' (fs ++ [y]) (css ++ [c])) W2 := by
  subst e
  obtain ⟨hq1, hq2, hq3⟩ := h.q
  have hsz := hb.size
  have kB : W'.heap[B]? = W.heap[B]? := hb.block B (by omega)
  have kg : W'.heap[g]? = W.heap[g]? := hb.block g (by omega)
  have kR : W'.heap[R]? = W.heap[R]? := hb.block R hRb
  have kF : W'.heap[F]? = W.heap[F]? := hb.block F hFb
  have hp : Rdr B g n cap T s W' := h.p.same kB kg hsz
  have hu : Upd B w W' := ⟨fun k hk hne => (hb.block k (by omega)).trans (h.u.heap k hk hne), h.u.below.trans (hb.mono (by omega))⟩
  have hF' : Bk F #[.string S, .string N, u, .int .i64 l] W' := hq2.same kF hsz
  exact ⟨hp.off hF (fun hh => by omega), ⟨(hq1.same kR hsz).same (Below.heap_setCell _ ⟨F, 2, none⟩ _ R hRF) (by simp), hF'.put (o := 2) (by simp) v', Lst.set_ hL hFb hFb⟩, hu.off hF2 (by omega), QB.st hR hF (by omega)⟩
/-- field, with the shape of its row and what it is read off. -/
theorem rfield_v {B g n cap : Nat} {T : List Tok} {s : St} {w : World} (hT : TOk T) (h : Rdr B g n cap T s w) {S : ByteArray} (hS : strV (rfldT T s).1 = .string S) {l : Nat} (hl : (rfldT T s).2.2 = l) :
    Calls Try.prog 38 #[.pointer (some ⟨B, 0, none⟩)] w fun e w' => ∃ p m c, e = .returned (.agg #[.string S, .slice p m c, .int .i64 l]) ∧ Hid (Made w.heap.size (fun W => fldR W [.string S, .slice p m c, .int .i64 l] (rfldT T s)) w') ∧ Rdr B g n cap T (fldS T s) w' ∧ Upd B w w' :=
  (rfield_c hT h).mono (by
    rintro e w' ⟨u, rfl, ho, hp, hu⟩
    obtain ⟨p, m, c, rfl⟩ := own_sl ho
    refine ⟨p, m, c, by rw [← hS, ← hl]; rfl, Lib.hid ?_, hp, hu⟩
    exact (RowAt.made (RowAt.owned ho) fun b hb => (ho.lt b hb).1).imp fun W g' => ⟨_, by rw [hS, hl], g'⟩)
/-- What the loop's measure counts. -/
def remQ (n B : Nat) (w : World) : Nat := remR n B w + (match w.cell? ⟨B, 2, none⟩ with
  | some (.int _ f) => if f = 0 then 1 else 0
  | _ => 0)
theorem remQ_rdr {B g n cap : Nat} {T : List Tok} {s : St} {w : World} (h : Rdr B g n cap T s w) : remQ n B w = (n - s.i) + (if s.f = 0 then 1 else 0) := by
  unfold remQ
  rw [remR_rdr h, h.blk.three.2.2]
  by_cases hf : s.f = 0
  · simp [hf]
  · have : ¬ ((s.f : Int) = 0) := by omega
    simp [hf]

end Go.Proofs.Ythdcgplocdehjaa

/- The reference's reader: block. -/
namespace Go.Proofs.Ythdcgplocdehjaa
open Go.RowKit Go.Proofs.Kit

set_option maxRecDepth 100000 in
set_option maxHeartbeats 8000000 in
theorem rblock_c {B g n cap : Nat} {T : List Tok} {s : St} {w : World} (hT : TOk T) (h : Rdr B g n cap T s w) :
    Calls Try.prog 23 #[.pointer (some ⟨B, 0, none⟩)] w fun e w' => ∃ p m c, e = .returned (.agg #[strV (rblkT T s).1, strV (rblkT T s).2.1, .slice p m c, .int .i64 (rblkT T s).2.2.2]) ∧ (∃ css, Lst fldR w.heap.size w.heap.size 42 3 (.slice p m c) w' (rblkT T s).2.2.1 css) ∧ Rdr B g n cap T (rblkS T s) w' ∧ Upd B w w' := by
  have hBw : B < w.heap.size := h.blk.1
  have hBd : Below w.heap.size w (w.alloc (.cells #[.string ⟨#[]⟩, .string ⟨#[]⟩, .slice none 0 0, .int .i64 0] 39)) := (Below.refl _ _).alloc (Nat.le_refl _) _
  have R0 := Lib.hid (Bk.new w #[.string ⟨#[]⟩, .string ⟨#[]⟩, .slice none 0 0, .int .i64 0] 39)
  have h0 := h.keep hBd
  have hg := h.glt
  have hgB := h.gB
  obtain ⟨W, hW⟩ : ∃ W, w.alloc (.cells #[.string ⟨#[]⟩, .string ⟨#[]⟩, .slice none 0 0, .int .i64 0] 39) = W := ⟨_, rfl⟩
  rw [hW] at hBd R0 h0
  have HW := Lib.hid hW
  have hs0 := R0.out.1
  have hTn := hT.num
  have hTl := h.len
  have hi := h.i
  have hc1 := h.cap1
  have hc2 := h.cap2
  have HTL := Lib.hid hTl
  have K0 := Lib.hid (show Knr B g n cap T s w (Bk w.heap.size blkZ) W from ⟨h0, R0.out, Upd.of hBd (by omega), bk_st (by omega)⟩)
  obtain ⟨S1, hS1⟩ : ∃ S : ByteArray, (⟨(takeT T s 1 []).2.1.toArray⟩ : ByteArray) = S := ⟨_, rfl⟩
  obtain ⟨l0, hl0⟩ : ∃ l, (tk T s.i).2.2 = l := ⟨_, rfl⟩
  have ZF : Hid (∀ W', Rdr B g n cap T s W' → W'.cell? ⟨g, s.i * 3 + 2, none⟩ = some (.int .i64 l0)) := Lib.hid (fun W' g' => by rw [← hl0]; exact (g'.row s.i g'.i).2.2)
  obtain ⟨s1, hs1⟩ : ∃ x, needS T s 1 [] = x := ⟨_, rfl⟩
  have NA := Lib.hid (fun w' (g' : Rdr B g n cap T s w') => rtake_v hT g' 1 ⟨#[]⟩ hS1 hs1)
  obtain ⟨b2, hb2⟩ : ∃ b, isP T s1 1 [] = b := ⟨_, rfl⟩
  obtain ⟨S2, hS2⟩ : ∃ S : ByteArray, (⟨(takeT T s1 1 []).2.1.toArray⟩ : ByteArray) = S := ⟨_, rfl⟩
  have AN := Lib.hid (fun w' (g' : Rdr B g n cap T s1 w') => at_v hT g' 1 ⟨#[]⟩ hb2)
  obtain ⟨s2, hs2⟩ : ∃ x, takeS T s1 1 [] = x := ⟨_, rfl⟩
  have TN : Hid (b2 = true → ∀ w', Rdr B g n cap T s1 w' → Calls Try.prog 21 #[.pointer (some ⟨B, 0, none⟩), .int .i64 1, .string ⟨#[]⟩] w' fun e w2 => e = .returned (.string S2) ∧ Rdr B g n cap T s2 w2 ∧ Upd B w' w2) := Lib.hid (fun hb w' g' => by
    rw [hb] at hb2
    exact rtake_v hT g' 1 ⟨#[]⟩ hS2 (by rw [← hs2]; exact need_take hb2))
  have SN : Hid (b2 = false → s2 = s1 ∧ S2 = ⟨#[]⟩) := Lib.hid (fun hb => by
    rw [hb] at hb2
    exact ⟨by rw [← hs2]; exact takeS_no hb2, by rw [← hS2, takeT_no hb2]; rfl⟩)
  obtain ⟨S3, hS3⟩ : ∃ S : ByteArray, (⟨(takeT T s2 4 [123]).2.1.toArray⟩ : ByteArray) = S := ⟨_, rfl⟩
  obtain ⟨s3, hs3⟩ : ∃ x, needS T s2 4 [123] = x := ⟨_, rfl⟩
  have NC := Lib.hid (fun w' (g' : Rdr B g n cap T s2 w') => rtake_v hT g' 4 ⟨#[123]⟩ hS3 hs3)
  have HB : Hid (rblkT T s = ((takeT T s 1 []).2.1, (takeT T s1 1 []).2.1, rfsT T (T.length + 1) s3, l0)) := Lib.hid (by unfold rblkT blk3; rw [hs1, hs2, hs3, hl0])
  have HBS : Hid (rblkS T s = needS T (rfsS T (T.length + 1) s3) 4 [125]) := Lib.hid (by unfold rblkS blk3; rw [hs1, hs2, hs3])
  have HK : Hid (strV (takeT T s 1 []).2.1 = .string S1) := Lib.hid (by unfold strV; rw [hS1])
  have HN : Hid (strV (takeT T s1 1 []).2.1 = .string S2) := Lib.hid (by unfold strV; rw [hS2])
  rw [HB.out, HBS.out]
  simp only
  rw [HK.out, HN.out]
  clear hW hS1 hl0 hs1 hb2 hS2 hs2 hS3 hs3 h0 h
  obtain ⟨i, f⟩ := s
  simp only at hi ZF K0
  have iz : (i : Int) < (n : Int) := by omega
  have iz0 : (0 : Int) ≤ (i : Int) := by omega
  go_enter Try.func23, Try.ntmps23
  go_upto_region 1 with fail
  rw [HW.out]
  go_cut [3] (fun s3 wx => ∃ F, s3 = .pointer (some ⟨F, 0, none⟩) ∧ Hid (Knr B g n cap T ⟨i, f⟩ w (fun W => Bk w.heap.size blkZ W ∧ Bk F #[.string ⟨#[]⟩, .string ⟨#[]⟩, .slice none 0 0, .int .i64 l0] W) wx) ∧ w.heap.size < F)
  case first =>
    have K1 := Lib.hid K0.out.drew
    have K2 := Lib.hid (K0.out.alloc (.cells #[.string ⟨#[]⟩, .string ⟨#[]⟩, .slice none 0 0, .int .i64 0] 39))
    have K3 := Lib.hid (K2.out.drew)
    have K4 := Lib.hid (K0.out.alloc (.cells #[.string ⟨#[]⟩, .string ⟨#[]⟩, .slice none 0 0, .int .i64 l0] 39))
    have K5 := Lib.hid (K4.out.drew)
    have N4 := Lib.hid (Bk.new W #[.string ⟨#[]⟩, .string ⟨#[]⟩, .slice none 0 0, .int .i64 l0] 39)
    obtain ⟨a0, a1, a2⟩ := K0.out.p.blk.three
    obtain ⟨b0, b1, b2⟩ := K1.out.p.blk.three
    obtain ⟨c0, c1, c2⟩ := K2.out.p.blk.three
    obtain ⟨d0, d1, d2⟩ := K3.out.p.blk.three
    have e0 := ZF.out _ K0.out.p
    have e1 := ZF.out _ K1.out.p
    have e2 := ZF.out _ K2.out.p
    have e3 := ZF.out _ K3.out.p
    go_region
    all_goals
      go_wp2_with fail
      go_meet
      exact ⟨W.heap.size, rfl, Lib.hid ⟨K5.out.p, ⟨K5.out.q, N4.out.keep (Below.refl _ _).drew⟩, K5.out.u, fun _ _ hu k => ⟨k.1.upd hu (by omega), k.2.upd hu (by omega)⟩⟩, hs0⟩
  case rest =>
    obtain ⟨F, rfl, hK, hFR⟩ := hcut
    have hgF : F ≠ g := by omega
    go_upto_region 3 with (go_at_call 21; ((with_reducible refine (NA.out _ hK.out.p).mono ?_); rintro e w1 ⟨rfl, hP1, hu1⟩; have K1 := Lib.hid (hK.out.step hu1 hP1); obtain ⟨c0, c1, c2, c3⟩ := K1.out.q.2.four; obtain ⟨d0, d1, d2, d3⟩ := K1.out.q.2.free4))
    have K2 := Lib.hid (Knr.put (o := 0) K1.out (by simp) (.string S1) (by omega) hgF (by omega) (by omega) (bk_off K1.out.q.1 (by omega) _) (bk_st (by omega)))
    revert K2
    generalize w1.setCell ⟨F, 0, none⟩ (.string S1) = X
    intro K2
    have K2 := Lib.hid (show Knr B g n cap T s1 w (fun W => Bk w.heap.size blkZ W ∧ Bk F #[.string S1, .string ⟨#[]⟩, .slice none 0 0, .int .i64 l0] W) X from K2.out)
    go_upto_if 20 with (go_at_call 22; ((with_reducible refine (AN.out _ K2.out.p).mono ?_); rintro e w3 ⟨rfl, hP3, hu3⟩; have K3 := Lib.hid (K2.out.step hu3 hP3)))
    go_cut [3] (fun s3 wx => s3 = .pointer (some ⟨F, 0, none⟩) ∧ Hid (Knr B g n cap T s2 w (fun W => Bk w.heap.size blkZ W ∧ Bk F #[.string S1, .string S2, .slice none 0 0, .int .i64 l0] W) wx))
    case first =>
      cases b2
      · obtain ⟨rfl, rfl⟩ := SN.out rfl
        go_wp2_with fail
        go_meet
        exact ⟨rfl, K3⟩
      · go_wp2_with (go_at_call 21; ((with_reducible refine (TN.out rfl _ K3.out.p).mono ?_); rintro e w4 ⟨rfl, hP4, hu4⟩; have K4 := Lib.hid (K3.out.step hu4 hP4); obtain ⟨c0, c1, c2, c3⟩ := K4.out.q.2.four; obtain ⟨d0, d1, d2, d3⟩ := K4.out.q.2.free4))
        go_meet
        exact ⟨rfl, Lib.hid (Knr.put (o := 1) K4.out (by simp) (.string S2) (by omega) hgF (by omega) (by omega) (bk_off K4.out.q.1 (by omega) _) (bk_st (by omega)))⟩
    case rest =>
    obtain ⟨rfl, hK3⟩ := hcut
    go_wp2_with (go_at_call 21; ((with_reducible refine (NC.out _ hK3.out.p).mono ?_); rintro e w5 ⟨rfl, hP5, hu5⟩; have K7 := Lib.hid (hK3.out.step hu5 hP5)))
    have hF5 := K7.out.q.2.1
    have K8 := Lib.hid (show Knr B g n cap T s3 w (QB w.heap.size F w5.heap.size S1 S2 l0 (.slice none 0 0) [] []) w5 from ⟨K7.out.p, ⟨K7.out.q.1, K7.out.q.2, Lst.nil w5⟩, K7.out.u, QB.st (by omega) (by omega) (by omega)⟩)
    go_loopw [26] (fun _ wr => ∃ fu : Nat, ∃ sx : St, ∃ fs : List Fld, ∃ css u, fs.length + fu = n + 1 ∧ n ≤ fu + sx.i ∧ (sx.f = 0 → n + 1 ≤ fu + sx.i) ∧ Hid (w5.heap.size ≤ wr.heap.size) ∧ Hid (Knr B g n cap T sx w (QB w.heap.size F w5.heap.size S1 S2 l0 u fs css) wr) ∧ Hid (rfsT T (T.length + 1) s3 = fs ++ rfsT T fu sx) ∧ Hid (rfsS T (T.length + 1) s3 = rfsS T fu sx)) (fun _ wr => remQ n B wr)
    case atStart => exact ⟨n + 1, s3, [], [], _, by simp, by omega, (fun _ => by omega), Lib.hid (Nat.le_refl _), Lib.hid K8.out, Lib.hid (by rw [HTL.out]; rfl), Lib.hid (by rw [HTL.out])⟩
    case round =>
      obtain ⟨fu, sx, fs, css, u, hv1, hv2, hv3, KW5, hKx, hcT, hcS⟩ := hrel
      have hsi := hKx.out.p.i
      obtain ⟨pu, nu, cu, eu⟩ := own_sl hKx.out.q.2.2.own
      subst eu
      have hrem := remQ_rdr hKx.out.p
      have hix : sx.i < T.length := by omega
      obtain ⟨k0, k1, k2⟩ := hKx.out.p.blk.three
      by_cases hf : sx.f = 0
      · have hfb : ((sx.f : Int) == 0) = true := by rw [beq_iff_eq]; omega
        obtain ⟨b, hb⟩ : ∃ b, isP T sx 4 [125] = b := ⟨_, rfl⟩
        have TA := Lib.hid (at_v hT hKx.out.p 4 ⟨#[125]⟩ hb)
        have hgo : goesOn T sx = !b := by unfold goesOn; rw [hb, hf]; rfl
        cases b
        · obtain ⟨fu, rfl⟩ : ∃ f, fu = f + 1 := ⟨fu - 1, by omega⟩
          obtain ⟨e1, e2⟩ := rfsT_yes (f := fu) hgo
          have hmore := fldS_goes hT hix
          have hmono := fldS_mono T sx
          obtain ⟨sz, hsz⟩ : ∃ x, fldS T sx = x := ⟨_, rfl⟩
          obtain ⟨y, hy⟩ : ∃ x, rfldT T sx = x := ⟨_, rfl⟩
          obtain ⟨SY, hSY⟩ : ∃ S : ByteArray, strV (rfldT T sx).1 = .string S := ⟨_, rfl⟩
          obtain ⟨ly, hly⟩ : ∃ l, (rfldT T sx).2.2 = l := ⟨_, rfl⟩
          have FV := Lib.hid (fun w' (g' : Rdr B g n cap T sx w') => rfield_v hT g' hSY hly)
          rw [hsz, hy] at FV
          rw [hsz] at e1 e2 hmore hmono
          rw [hy] at e1
          have HE1 : Hid (rfsT T (T.length + 1) s3 = (fs ++ [y]) ++ rfsT T fu sz) := Lib.hid (by rw [hcT.out, e1, List.append_assoc]; rfl)
          have HE2 : Hid (rfsS T (T.length + 1) s3 = rfsS T fu sz) := Lib.hid (by rw [hcS.out, e2])
          rw [if_pos hf] at hrem
          have hv4 := hv3 hf
          have HREM : Hid (remQ n B wr = n - sx.i + 1) := Lib.hid hrem
          clear hb e1 e2 hsz hy hSY hly hgo hrem
          obtain ⟨wo, rfl⟩ : ∃ x, x = wr := ⟨_, rfl⟩
          go_wp2_with (go_at_call 22; ((with_reducible refine (TA.out).mono ?_); rintro e w6 ⟨rfl, hP6, hu6⟩; have K9 := Lib.hid (hKx.out.step hu6 hP6)))
          have KD := Lib.hid K9.out.drew
          have hbD : w5.heap.size ≤ w6.drew.heap.size := Nat.le_trans (Nat.le_of_eq rfl) (by have := KW5.out; exact Nat.le_trans this (Nat.le_trans hu6.below.size (Nat.le_of_eq rfl)))
          obtain ⟨a0, a1, a2, a3⟩ := KD.out.q.2.1.four
          go_region_law (first
            | (refine step_append_lst erF (by rfl) (by rfl) KB.out.q.2.2 (by rfl) (by rfl) (c := [.string SY, .slice p8 m8 c8, .int .i64 ly]) (fun j u h => alloc_cell _ _ _ _ j u (by simpa using h)) (by rfl) (by simp [Value.oneCell']) (by omega) (by omega) hle8 (y := y) HEl.out ?_; intro v9 w9 hL9 hb9 hg9 hv9; have KG := Lib.hid (QB.growR KB.out (by omega) (by omega) hBw (by omega) (by omega) hg (by omega) (by omega) hL9 hb9 rfl); obtain ⟨x0, x1, x2, x3⟩ := (QB.after KB.out.q hb9 (by omega)).four; obtain ⟨y0, y1, y2, y3⟩ := (QB.after KB.out.q hb9 (by omega)).free4; obtain ⟨p9, n9, c9, e9⟩ := own_sl hL9.own; subst e9)
            | (go_simp; go_wp2_with (go_at_call 38; ((with_reducible refine (FV.out _ KD.out.p).mono ?_); rintro e w8 ⟨p8, m8, c8, rfl, hM8, hP8, hu8⟩; have KA := Lib.hid (KD.out.step hu8 hP8); have KB := Lib.hid (KA.out.alloc (.cells #[.string SY, .slice p8 m8 c8, .int .i64 ly] 42)); have hle8 : w5.heap.size ≤ (w8.alloc (.cells #[.string SY, .slice p8 m8 c8, .int .i64 ly] 42)).heap.size := Nat.le_trans hbD (Nat.le_trans hu8.below.size (by simp)); have HEl := Lib.hid (fresh_elt' KD.out.q.2.2 (hM8.out.keep ((Below.refl w8.heap.size w8).alloc (Nat.le_refl _) (.cells #[.string SY, .slice p8 m8 c8, .int .i64 ly] 42))) hbD); obtain ⟨b0, b1, b2, b3⟩ := KA.out.q.2.1.four; obtain ⟨c0, c1, c2, c3⟩ := KB.out.q.2.1.four))))
          all_goals
            go_wp2_with fail
            exact ⟨⟨fu, sz, fs ++ [y], _, _, by rw [List.length_append, List.length_singleton]; omega, by omega, (fun h0 => by rcases hmore with h1 | h1 <;> omega), Lib.hid (by have := hb9.size; simp only [World.size_setCell]; exact Nat.le_trans hle8 this), Lib.hid KG.out, HE1, HE2⟩, by rw [remQ_rdr KG.out.p, HREM.out]; have := KG.out.p.i; split <;> rcases hmore with h1 | h1 <;> omega⟩
        · have hgo : goesOn T sx = false := hgo
          obtain ⟨e1, e2⟩ := rfsT_no (f := fu) hgo
          have HE1 : Hid (rfsT T (T.length + 1) s3 = fs) := Lib.hid (by rw [hcT.out, e1, List.append_nil])
          have HE2 : Hid (rfsS T (T.length + 1) s3 = sx) := Lib.hid (by rw [hcS.out, e2])
          obtain ⟨S5, hS5⟩ : ∃ S : ByteArray, (⟨(takeT T sx 4 [125]).2.1.toArray⟩ : ByteArray) = S := ⟨_, rfl⟩
          have NE := Lib.hid (fun w' (g' : Rdr B g n cap T sx w') => rtake_v hT g' 4 ⟨#[125]⟩ hS5 rfl)
          rw [show (⟨#[125]⟩ : ByteArray).data.toList = [125] from rfl] at NE
          clear hgo hb e1 e2 hS5
          obtain ⟨wo, rfl⟩ : ∃ x, x = wr := ⟨_, rfl⟩
          go_wp2_with (first
              | (go_at_call 22; ((with_reducible refine (TA.out).mono ?_); rintro e w6 ⟨rfl, hP6, hu6⟩; have K9 := Lib.hid (hKx.out.step hu6 hP6)))
              | (go_at_call 21; ((with_reducible refine (NE.out _ K9.out.p).mono ?_); rintro e w7 ⟨rfl, hP7, hu7⟩; have KE := Lib.hid (K9.out.step hu7 hP7); obtain ⟨c0, c1, c2, c3⟩ := KE.out.q.2.1.four; obtain ⟨r0, r1, r2, r3⟩ := (show Bk w.heap.size #[.string ⟨#[]⟩, .string ⟨#[]⟩, .slice none 0 0, .int .i64 0] w7 from KE.out.q.1).four; obtain ⟨f0, f1, f2, f3⟩ := KE.out.q.1.free4)))
          refine bodyPost_ret (v := .agg #[.string S1, .string S2, .slice pu nu cu, .int .i64 l0]) (by simp [results, Try.results23, go_sem, r0, r1, r2, r3]) rfl ?_
          have hu9 := (((KE.out.u.off (b := w.heap.size) (o := 0) (v := .string S1) (Nat.le_refl _) (by omega)).off (b := w.heap.size) (o := 1) (v := .string S2) (Nat.le_refl _) (by omega)).off (b := w.heap.size) (o := 2) (v := .slice pu nu cu) (Nat.le_refl _) (by omega)).off (b := w.heap.size) (o := 3) (v := .int .i64 l0) (Nat.le_refl _) (by omega)
          have hp9 := (((hP7.off (b := w.heap.size) (o := 0) (v := .string S1) (by omega) (by omega)).off (b := w.heap.size) (o := 1) (v := .string S2) (by omega) (by omega)).off (b := w.heap.size) (o := 2) (v := .slice pu nu cu) (by omega) (by omega)).off (b := w.heap.size) (o := 3) (v := .int .i64 l0) (by omega) (by omega)
          have hl9 := Lst.set_ (F := w.heap.size) (o := 3) (x := .int .i64 l0) (Lst.set_ (F := w.heap.size) (o := 2) (x := .slice pu nu cu) (Lst.set_ (F := w.heap.size) (o := 1) (x := .string S2) (Lst.set_ (F := w.heap.size) (o := 0) (x := .string S1) KE.out.q.2.2 (by omega) (by omega)) (by omega) (by omega)) (by omega) (by omega)) (by omega) (by omega)
          exact ⟨_, _, _, rfl, ⟨_, by rw [HE1.out]; exact Lst.down hl9 (by omega)⟩, by rw [HE2.out]; exact hp9, hu9⟩

      · have hfb : ((sx.f : Int) == 0) = false := by rw [beq_eq_false_iff_ne]; omega
        have hgo : goesOn T sx = false := by unfold goesOn; rw [show (sx.f == 0) = false by rw [beq_eq_false_iff_ne]; exact hf]; rfl
        have K9 := Lib.hid hKx.out
        obtain ⟨e1, e2⟩ := rfsT_no (f := fu) hgo
        have HE1 : Hid (rfsT T (T.length + 1) s3 = fs) := Lib.hid (by rw [hcT.out, e1, List.append_nil])
        have HE2 : Hid (rfsS T (T.length + 1) s3 = sx) := Lib.hid (by rw [hcS.out, e2])
        obtain ⟨S5, hS5⟩ : ∃ S : ByteArray, (⟨(takeT T sx 4 [125]).2.1.toArray⟩ : ByteArray) = S := ⟨_, rfl⟩
        have NE := Lib.hid (fun w' (g' : Rdr B g n cap T sx w') => rtake_v hT g' 4 ⟨#[125]⟩ hS5 rfl)
        rw [show (⟨#[125]⟩ : ByteArray).data.toList = [125] from rfl] at NE
        clear hgo e1 e2 hS5
        obtain ⟨wo, rfl⟩ : ∃ x, x = wr := ⟨_, rfl⟩
        go_wp2_with (go_at_call 21; ((with_reducible refine (NE.out _ K9.out.p).mono ?_); rintro e w7 ⟨rfl, hP7, hu7⟩; have KE := Lib.hid (K9.out.step hu7 hP7); obtain ⟨c0, c1, c2, c3⟩ := KE.out.q.2.1.four; obtain ⟨r0, r1, r2, r3⟩ := (show Bk w.heap.size #[.string ⟨#[]⟩, .string ⟨#[]⟩, .slice none 0 0, .int .i64 0] w7 from KE.out.q.1).four; obtain ⟨f0, f1, f2, f3⟩ := KE.out.q.1.free4))
        refine bodyPost_ret (v := .agg #[.string S1, .string S2, .slice pu nu cu, .int .i64 l0]) (by simp [results, Try.results23, go_sem, r0, r1, r2, r3]) rfl ?_
        have hu9 := (((KE.out.u.off (b := w.heap.size) (o := 0) (v := .string S1) (Nat.le_refl _) (by omega)).off (b := w.heap.size) (o := 1) (v := .string S2) (Nat.le_refl _) (by omega)).off (b := w.heap.size) (o := 2) (v := .slice pu nu cu) (Nat.le_refl _) (by omega)).off (b := w.heap.size) (o := 3) (v := .int .i64 l0) (Nat.le_refl _) (by omega)
        have hp9 := (((hP7.off (b := w.heap.size) (o := 0) (v := .string S1) (by omega) (by omega)).off (b := w.heap.size) (o := 1) (v := .string S2) (by omega) (by omega)).off (b := w.heap.size) (o := 2) (v := .slice pu nu cu) (by omega) (by omega)).off (b := w.heap.size) (o := 3) (v := .int .i64 l0) (by omega) (by omega)
        have hl9 := Lst.set_ (F := w.heap.size) (o := 3) (x := .int .i64 l0) (Lst.set_ (F := w.heap.size) (o := 2) (x := .slice pu nu cu) (Lst.set_ (F := w.heap.size) (o := 1) (x := .string S2) (Lst.set_ (F := w.heap.size) (o := 0) (x := .string S1) KE.out.q.2.2 (by omega) (by omega)) (by omega) (by omega)) (by omega) (by omega)) (by omega) (by omega)
        exact ⟨_, _, _, rfl, ⟨_, by rw [HE1.out]; exact Lst.down hl9 (by omega)⟩, by rw [HE2.out]; exact hp9, hu9⟩

end Go.Proofs.Ythdcgplocdehjaa

/- The reference: Parse; what its walk needs. -/
namespace Go.Proofs.Ythdcgplocdehjaa
open Go.RowKit Go.Proofs.Kit

theorem rfsS_mono (T : List Tok) : ∀ (f : Nat) (s : St), s.i ≤ (rfsS T f s).i := by
  intro f
  induction f with
  | zero => intro s; exact Nat.le_refl _
  | succ f ih =>
    intro s
    unfold rfsS
    split
    · exact Nat.le_trans (fldS_mono _ _) (ih _)
    · exact Nat.le_refl _
theorem rfsS_bad {T : List Tok} {f : Nat} {s : St} (h : s.f ≠ 0) : rfsS T f s = s := (rfsT_no (by unfold goesOn; rw [show (s.f == 0) = false by rw [beq_eq_false_iff_ne]; exact h]; rfl)).2
theorem blk3_bad {T : List Tok} {s : St} (h : (needS T s 1 []).f ≠ 0) : blk3 T s = needS T s 1 [] := by
  unfold blk3
  rw [takeS_bad h, needS_bad h]
theorem rblkS_mono (T : List Tok) (s : St) : s.i ≤ (rblkS T s).i := by
  unfold rblkS blk3
  exact Nat.le_trans (needS_mono _ _ _ _) (Nat.le_trans (takeS_mono _ _ _ _) (Nat.le_trans (needS_mono _ _ _ _) (Nat.le_trans (rfsS_mono _ _ _) (needS_mono _ _ _ _))))
theorem rblkS_no {T : List Tok} {s : St} (hT : TOk T) (hi : s.i < T.length) (h : isP T s 1 [] = false) : rblkS T s = failP T s := by
  have hf := failP_f (s := s) hT hi
  have e : needS T s 1 [] = failP T s := needS_no h
  unfold rblkS
  rw [blk3_bad (by rw [e]; exact hf), e, rfsS_bad hf, needS_bad hf]
theorem rblkS_goes {T : List Tok} {s : St} (hT : TOk T) (hi : s.i < T.length) : s.i + 1 ≤ (rblkS T s).i ∨ (rblkS T s).f ≠ 0 := by
  cases h : isP T s 1 []
  · rw [rblkS_no hT hi h]; exact .inr (failP_f hT hi)
  · refine .inl ?_
    have e : (needS T s 1 []).i = s.i + 1 := by rw [needS_yes h]; unfold nextP; rw [if_neg (by decide)]
    unfold rblkS blk3
    have h1 := takeS_mono T (needS T s 1 []) 1 []
    have h2 := needS_mono T (takeS T (needS T s 1 []) 1 []) 4 [123]
    have h3 := rfsS_mono T (T.length + 1) (needS T (takeS T (needS T s 1 []) 1 []) 4 [123])
    have h4 := needS_mono T (rfsS T (T.length + 1) (needS T (takeS T (needS T s 1 []) 1 []) 4 [123])) 4 [125]
    omega
def rbsT (T : List Tok) : Nat → St → List BlkP
  | 0, _ => []
  | f + 1, s => if goesOn T s then rblkT T s :: rbsT T f (rblkS T s) else []
def rbsS (T : List Tok) : Nat → St → St
  | 0, s => s
  | f + 1, s => if goesOn T s then rbsS T f (rblkS T s) else s
theorem rbsT_no {T : List Tok} {f : Nat} {s : St} (h : goesOn T s = false) : rbsT T f s = [] ∧ rbsS T f s = s := by
  cases f with
  | zero => exact ⟨rfl, rfl⟩
  | succ f => unfold rbsT rbsS; rw [if_neg (by rw [h]; simp), if_neg (by rw [h]; simp)]; exact ⟨rfl, rfl⟩
theorem rbsT_yes {T : List Tok} {f : Nat} {s : St} (h : goesOn T s = true) : rbsT T (f + 1) s = rblkT T s :: rbsT T f (rblkS T s) ∧ rbsS T (f + 1) s = rbsS T f (rblkS T s) := by
  refine ⟨?_, ?_⟩
  · conv => lhs; unfold rbsT
    rw [if_pos h]
  · conv => lhs; unfold rbsS
    rw [if_pos h]
def rsrcT (T : List Tok) : Src := ((takeT T (srcA T) 3 []).2.1, rbsT T (T.length + 1) (srcC T))
def rsrcS (T : List Tok) : St := needS T (needS T (rbsS T (T.length + 1) (srcC T)) 4 [125]) 5 []
theorem rblock_v {B g n cap : Nat} {T : List Tok} {s : St} {w : World} (hT : TOk T) (h : Rdr B g n cap T s w) {S N : ByteArray} (hS : strV (rblkT T s).1 = .string S) (hN : strV (rblkT T s).2.1 = .string N) {l : Nat} (hl : (rblkT T s).2.2.2 = l) :
    Calls Try.prog 23 #[.pointer (some ⟨B, 0, none⟩)] w fun e w' => ∃ p m c, e = .returned (.agg #[.string S, .string N, .slice p m c, .int .i64 l]) ∧ Hid (Made w.heap.size (fun W => blkR W [.string S, .string N, .slice p m c, .int .i64 l] (rblkT T s)) w') ∧ Rdr B g n cap T (rblkS T s) w' ∧ Upd B w w' :=
  (rblock_c hT h).mono (by
    rintro e w' ⟨p, m, c, rfl, ⟨css, hL⟩, hp, hu⟩
    refine ⟨p, m, c, by rw [hS, hN, hl], Lib.hid ?_, hp, hu⟩
    exact (Lst.made hL (Nat.le_refl _) (Nat.le_refl _)).imp fun W g' => ⟨_, by rw [hS, hN, hl], g'⟩)
theorem QS.growR {B g n cap R1 R2 F b0 : Nat} {T : List Tok} {s : St} {w W W' W2 : World} {S : ByteArray} {u v' : Value} {bs : List BlkP} {css : List (List Value)} {y : BlkP} {c : List Value} (h : Knr B g n cap T s w (QS R1 R2 F b0 S u bs css) W) (hR1 : R1 ≠ B) (hR2 : R2 ≠ B) (hF : F ≠ B) (hB : B < b0) (hR1F : R1 ≠ F) (hR2F : R2 ≠ F) (hF2 : w.heap.size ≤ F) (hBF : B ≤ F) (hgw : g < b0) (hgF : g ≠ F) (hR1b : R1 < b0) (hR2b : R2 < b0) (hFb : F < b0)
    (hL : Lst blkR b0 b0 39 4 v' W' (bs ++ [y]) (css ++ [c])) (hb : Below b0 W W') (e : W2 = W'.setCell ⟨F, 1, none⟩ v') :
    Knr B g n cap T s w (QS R1 R2 F b0 S v' (bs ++ [y]) (css ++ [c])) W2 := by
  subst e
  obtain ⟨⟨hq0, hq1⟩, hq2, hq3⟩ := h.q
  have hsz := hb.size
  have hp : Rdr B g n cap T s W' := h.p.same (hb.block B hB) (hb.block g hgw) hsz
  have hu : Upd B w W' := ⟨fun k hk hne => (hb.block k (by omega)).trans (h.u.heap k hk hne), h.u.below.trans (hb.mono (by omega))⟩
  have hF' : Bk F #[.string S, u] W' := hq2.same (hb.block F hFb) hsz
  exact ⟨hp.off hF (fun hh => hgF hh.symm), ⟨⟨(hq0.same (hb.block R1 hR1b) hsz).same (Below.heap_setCell _ ⟨F, 1, none⟩ _ R1 hR1F) (by simp), (hq1.same (hb.block R2 hR2b) hsz).same (Below.heap_setCell _ ⟨F, 1, none⟩ _ R2 hR2F) (by simp)⟩, hF'.put (o := 1) (by simp) v', Lst.set_ hL hFb hFb⟩, hu.off hF2 hBF, QS.st hR1 hR2 hF hB⟩
theorem Rdr.start {B base : Nat} {v : Value} {T : List Tok} {w : World} (hT : TOk T) (ho : w.ownsRow base 47 3 v T.length (T.flatMap tokCells)) :
    ∃ g cap, v = .slice (some ⟨g, 0, none⟩) T.length cap ∧ base ≤ g ∧ g < w.heap.size ∧ (∀ W, Below w.heap.size w W → Bk B #[v, .int .i64 0, .int .i64 0] W → w.heap.size ≤ B → Rdr B g T.length cap T ⟨0, 0⟩ W) := by
  obtain ⟨g, cap, rfl, h1, h2, h3⟩ := Prs.start (B := B) hT ho
  exact ⟨g, cap, rfl, h1, h2, fun W hb hB hl => by
    have p := h3 W hb hB hl
    exact ⟨hB, p.row, p.gB, p.glt, p.i, p.len, p.cap1, p.cap2⟩⟩
/-- What the reference's Parse hands back. -/
def RPRet (B : Nat) (x : Except Nat (List Tok)) (e : Ending) (w' : World) : Prop := match x with
  | .error n => e = .returned (.tuple #[srcNo, .agg #[.int .i64 1, .int .i64 n]])
  | .ok T => if (rsrcS T).f = 0 then ∃ p m c, e = .returned (.tuple #[.agg #[strV (rsrcT T).1, .slice p m c], .agg #[.int .i64 0, .int .i64 0]]) ∧ Made B (fun W => SliceOf blkR 4 W (.slice p m c) (rsrcT T).2) w'
    else e = .returned (.tuple #[srcNo, .agg #[.int .i64 1, .int .i64 (rsrcS T).f]])

end Go.Proofs.Ythdcgplocdehjaa
