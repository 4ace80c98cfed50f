/- The parser: field, its walk. -/
import Derived.Test.YthdcgplocdehjaaZE
namespace Go.Proofs.Ythdcgplocdehjaa
open Go.RowKit Go.Proofs.Kit

theorem QF.after {R F base : Nat} {S : ByteArray} {l : Nat} {u : Value} {vals : List Value} {W W' : World} {b : Nat} (hq : QF R F base S l u vals W) (hb : Below b W W') (hg : W.grownBy W' u.ownBlock) : Bk F #[.string S, u, .int .i64 l] W' :=
  hq.2.1.same (hg.block F hq.2.1.1 (fun g' => (hq.2.2.2 F g'.symm).2 rfl)) hb.size
theorem own_sl {w : World} {base : Nat} {e : TypeId} {size n : Nat} {v : Value} {cs : List Value} (h : w.ownsRow base e size v n cs) : ∃ p m c, v = .slice p m c := by
  rcases h.2 with ⟨rfl, hn⟩ | ⟨g, cap, cur, rfl, _⟩
  · exact ⟨_, _, _, rfl⟩
  · exact ⟨_, _, _, rfl⟩
/-- How many tokens are left. -/
def remN (B : Nat) (w : World) : Nat := match w.cell? ⟨B, 0, none⟩ with
  | some (.slice _ l _) => l
  | _ => 0
theorem remN_prs {B g n cap : Nat} {T : List Tok} {s : St} {w : World} (h : Prs B g n cap T s w) : remN B w = n - s.i := by
  unfold remN
  rw [h.blk.three.1]
theorem comT_no {T : List Tok} {f : Nat} {s : St} (h : isP T s 4 [44] = false) : comT T f s = [] ∧ comS T f s = s := by
  cases f with
  | zero => exact ⟨rfl, rfl⟩
  | succ f => unfold comT comS; rw [if_neg (by rw [h]; simp), if_neg (by rw [h]; simp)]; exact ⟨rfl, rfl⟩
theorem comT_yes {T : List Tok} {f : Nat} {s : St} (h : isP T s 4 [44] = true) : comT T (f + 1) s = valT T (takeS T s 4 [44]) :: comT T f (valS T (takeS T s 4 [44])) ∧ comS T (f + 1) s = comS T f (valS T (takeS T s 4 [44])) := by
  refine ⟨?_, ?_⟩
  · conv => lhs; unfold comT
    rw [if_pos h]
  · conv => lhs; unfold comS
    rw [if_pos h]
/-- The row of values has grown by one. -/
theorem QF.grow {B g n cap R F : Nat} {T : List Tok} {s : St} {w W W' W2 : World} {S : ByteArray} {l : Nat} {u v' : Value} {vals : List Value} {x : Value} (h : Kn B g n cap T s w (QF R F w.heap.size S l u vals) W) (hR : R ≠ B) (hF : F ≠ B) (hB : B < w.heap.size) (hRF : R ≠ F) (hF2 : w.heap.size ≤ F) (hgw : g < w.heap.size)
    (ho : W'.ownsRow w.heap.size 9 1 v' (vals.length + 1) (vals ++ [x])) (hb : Below w.heap.size W W') (hg : W.grownBy W' u.ownBlock) (hv : v'.ownBlock = u.ownBlock ∨ ∃ b, v'.ownBlock = some b ∧ W.heap.size ≤ b) (e : W2 = W'.setCell ⟨F, 1, none⟩ v') :
    Kn B g n cap T s w (QF R F w.heap.size S l v' (vals ++ [x])) W2 := by
  subst e
  obtain ⟨hq1, hq2, hq3, hq4⟩ := h.q
  have hsz := hb.size
  have kB : W'.heap[B]? = W.heap[B]? := hb.block B hB
  have kg : W'.heap[g]? = W.heap[g]? := hb.block g hgw
  have kR : W'.heap[R]? = W.heap[R]? := hg.block R hq1.1 (fun g' => (hq4 R g'.symm).1 rfl)
  have kF : W'.heap[F]? = W.heap[F]? := hg.block F hq2.1 (fun g' => (hq4 F g'.symm).2 rfl)
  have hp : Prs B g n cap T s W' := h.p.same kB kg hsz
  have hu : Upd B w W' := ⟨fun k hk hne => (hb.block k hk).trans (h.u.heap k hk hne), h.u.below.trans (hb.mono (by omega))⟩
  have hne : ∀ b, v'.ownBlock = some b → b ≠ R ∧ b ≠ F := fun b hbv => by
    rcases hv with hv | ⟨b', hv, hbl⟩
    · exact hq4 b (by rw [← hv]; exact hbv)
    · rw [hv] at hbv
      have e := Option.some.inj hbv
      have h1 := hq1.1
      have h2 := hq2.1
      omega
  have hF' : Bk F #[.string S, u, .int .i64 l] W' := hq2.same kF hsz
  have ho2 := ownsRow_setCell_other ho (a := ⟨F, 1, none⟩) (fun hh => (hne F hh).2 rfl) v'
  refine ⟨hp.off hF (fun hh => by omega), ⟨(hq1.same kR hsz).same (Below.heap_setCell _ ⟨F, 1, none⟩ _ R hRF) (by simp), hF'.put (o := 1) (by simp) v', ?_, hne⟩, hu.off hF2 (by omega), QF.st hR hF hB⟩
  rw [List.length_append, List.length_singleton]
  exact ho2

set_option maxRecDepth 100000 in
set_option maxHeartbeats 8000000 in
theorem field_c {B g n cap : Nat} {T : List Tok} {s : St} {w : World} (hT : TOk T) (h : Prs B g n cap T s w) :
    Calls Try.prog 37 #[.pointer (some ⟨B, 0, none⟩)] w fun e w' => ∃ u, e = .returned (.agg #[strV (fldT T s).1, u, .int .i64 (fldT T s).2.2]) ∧ OwnS w' w.heap.size u (fldT T s).2.1 ∧ Prs B g n cap T (fldS T s) w' ∧ Upd B w w' := by
  have hBw : B < w.heap.size := h.blk.1
  have hBd : Below w.heap.size w (w.alloc (.cells #[.string ⟨#[]⟩, .slice none 0 0, .int .i64 0] 42)) := (Below.refl _ _).alloc (Nat.le_refl _) _
  have R0 := Lib.hid (Bk.new w #[.string ⟨#[]⟩, .slice none 0 0, .int .i64 0] 42)
  have h0 := h.keep hBd
  have hg := h.glt
  obtain ⟨W, hW⟩ : ∃ W, w.alloc (.cells #[.string ⟨#[]⟩, .slice none 0 0, .int .i64 0] 42) = W := ⟨_, rfl⟩
  rw [hW] at hBd R0 h0
  have HW := Lib.hid hW
  have hs0 := R0.out.1
  obtain ⟨S1, hS1⟩ : ∃ S : ByteArray, (⟨(takeT T s 1 []).2.1.toArray⟩ : ByteArray) = S := ⟨_, rfl⟩
  obtain ⟨l1, hl1⟩ : ∃ l, (takeT T s 1 []).2.2 = l := ⟨_, rfl⟩
  have NA := need_c hT h0 1 ⟨#[]⟩
  rw [Lib.toList_data, show (⟨#[]⟩ : ByteArray).data.toList = [] from rfl, tokV_eq _ rfl hS1 hl1] at NA
  obtain ⟨k1, hk1⟩ : ∃ k, (takeT T s 1 []).1 = k := ⟨_, rfl⟩
  obtain ⟨s1, hs1⟩ : ∃ x, needS T s 1 [] = x := ⟨_, rfl⟩
  rw [hk1, hs1] at NA
  have NA := Lib.hid NA
  have VA := Lib.hid (fun w' (g' : Prs B g n cap T s1 w') => value_c hT g')
  obtain ⟨V1, hV1⟩ : ∃ S : ByteArray, (⟨(valT T s1).toArray⟩ : ByteArray) = S := ⟨_, rfl⟩
  obtain ⟨s2, hs2⟩ : ∃ x, valS T s1 = x := ⟨_, rfl⟩
  rw [hV1, hs2] at VA
  have HF : Hid (fldT T s = ((takeT T s 1 []).2.1, valT T s1 :: comT T T.length s2, l1)) := Lib.hid (by unfold fldT; rw [hs1, hs2, hl1])
  have HFS : Hid (fldS T s = needS T (comS T T.length s2) 4 [59]) := Lib.hid (by unfold fldS; rw [hs1, hs2])
  have HK : Hid (strV (takeT T s 1 []).2.1 = .string S1) := Lib.hid (by unfold strV; rw [hS1])
  have HV : Hid (strV (valT T s1) = .string V1) := Lib.hid (by unfold strV; rw [hV1])
  rw [HF.out, HFS.out]
  simp only
  rw [HK.out]
  clear hW hS1 hl1 hk1 hs1 hV1 hs2 h0
  go_enter Try.func37, Try.ntmps37
  go_upto_region 1 with fail
  rw [HW.out]
  go_wp2_with (go_at_call 18; ((with_reducible refine (NA.out).mono ?_); rintro e w1 ⟨rfl, hP1, hu1⟩; have K1 := Lib.hid (show Kn B g n cap T s1 w (Bk w.heap.size #[.string ⟨#[]⟩, .slice none 0 0, .int .i64 0]) w1 from ⟨hP1, R0.out.upd hu1 (by omega), (Upd.of hBd (by omega)).trans hu1, bk_st (by omega)⟩)))
  have N1 := Lib.hid (Bk.new w1 #[.int .i64 k1, .string S1, .int .i64 l1] 47)
  have KK := K1.out.alloc (.cells #[.int .i64 k1, .string S1, .int .i64 l1] 47)
  have hsz : (w1.alloc (.cells #[.int .i64 k1, .string S1, .int .i64 l1] 47)).heap.size = w1.heap.size + 1 := by simp
  revert N1 KK hsz
  generalize w1.alloc (.cells #[.int .i64 k1, .string S1, .int .i64 l1] 47) = X
  intro N1 KK hsz
  have hw1 := K1.out.u.below.size
  have hsz1 : w1.heap.size < X.heap.size := by omega
  clear hsz
  have K2 := Lib.hid (KK.with_ (R := Bk w1.heap.size #[.int .i64 k1, .string S1, .int .i64 l1]) N1.out (bk_st (by omega)))
  have hgX := K1.out.p.glt
  clear KK N1
  go_cut [4] (fun s4 wx => ∃ F u, s4 = .pointer (some ⟨F, 0, none⟩) ∧ Hid (Kn B g n cap T s2 w (QF w.heap.size F w.heap.size S1 l1 u [.string V1]) wx) ∧ w.heap.size < F)
  case first =>
    have K3 := Lib.hid (K2.out.drew)
    have K4 := Lib.hid (((K2.out.alloc (.cells fldZ 42)).with_ (R := Bk X.heap.size fldZ) (Bk.new X fldZ 42) (bk_st (by omega))).drew)
    go_region_held3 (fun w' => w'.cell? ⟨w1.heap.size, 1, none⟩ = some (.string S1) ∧ w'.cell? ⟨w1.heap.size, 2, none⟩ = some (.int .i64 l1))
      (first | exact K3.out.q.2.three.2 | exact K4.out.q.1.2.three.2 | exact K5.out.q.2.three.2 | exact K6.out.q.1.2.three.2 | exact (K5.out.alloc _).q.2.three.2 | exact (K6.out.alloc _).q.1.2.three.2 | exact ((K5.out.alloc _).alloc _).q.2.three.2 | exact KT6.out.three.2 | exact (KT6.out.keep ((Below.refl _ _).alloc (Nat.le_refl _) _)).three.2)
      (first
        | (go_at_call 57; ((with_reducible refine (VA.out _ K3.out.p).mono ?_); rintro e w3 ⟨rfl, hP3, hu3⟩; have K5 := Lib.hid (K3.out.step hu3 hP3)))
        | (go_at_call 57; ((refine (VA.out _ K4.out.p).mono ?_); rintro e w3 ⟨rfl, hP3, hu3⟩; have K6 := Lib.hid (K4.out.step hu3 hP3); have hlt6 := K6.out.q.2.1; have hn6 : ¬ X.heap.size = w3.heap.size := (by omega); have hn7 : ¬ w3.heap.size = X.heap.size := (by omega); have hz3 : Bk X.heap.size #[.string ⟨#[]⟩, .slice none 0 0, .int .i64 0] w3 := K6.out.q.2; obtain ⟨x0, x1, x2⟩ := hz3.three; obtain ⟨v0, v1, v2⟩ := hz3.free3; have hzz := hz3.keep ((Below.refl w3.heap.size w3).alloc (Nat.le_refl _) (.cells #[.string V1] 9)); obtain ⟨z0, z1, z2⟩ := hzz.three; obtain ⟨y0, y1, y2⟩ := hzz.free3; have KT6 := Lib.hid (bk_off3 K6.out.q.1.2 (show w1.heap.size ≠ X.heap.size from (by omega)) (.string S1) (.slice (some ⟨w3.heap.size, 0, none⟩) 1 1) (.int .i64 l1)))))
    all_goals
      go_wp2_with fail
      go_meet
      first
        | exact ⟨w3.heap.size + 1, .slice (some ⟨w3.heap.size, 0, none⟩) 1 1, rfl, Lib.hid (QF.a (K5.out.weak (fun h => h.1) (bk_st (by omega))) (by omega) (by omega)), by have := K5.out.u.below.size; omega⟩
        | exact ⟨w3.heap.size, .slice (some ⟨w3.heap.size + 1, 0, none⟩) 1 1, rfl, Lib.hid (QF.b (K5.out.weak (fun h => h.1) (bk_st (by omega))) (by omega) (by omega)), by have := K5.out.q.1.1; omega⟩
        | exact ⟨X.heap.size, .slice (some ⟨w3.heap.size, 0, none⟩) 1 1, rfl, Lib.hid (QF.c (K6.out.weak (fun h => ⟨h.1.1, h.2⟩) (fun _ _ hu k => ⟨k.1.upd hu (by omega), k.2.upd hu (by omega)⟩)) (by omega) (by omega) (by omega) (by omega) (by omega)), by omega⟩
  case rest =>
    obtain ⟨F, u, rfl, hK, hFR⟩ := hcut
    have hK := Lib.hid hK
    have hTl := h.len
    have hTn := hT.num
    have HTL := Lib.hid hTl
    go_wp2_with fail
    go_loopw [5, 6] (fun _ _ wr => ∃ fu : Nat, ∃ sx : St, ∃ vals : List (List UInt8), ∃ u, vals.length + fu = n + 1 ∧ n ≤ fu + sx.i ∧ Hid (Kn B g n cap T sx w (QF w.heap.size F w.heap.size S1 l1 u (vals.map strV)) wr) ∧ Hid (valT T s1 :: comT T T.length s2 = vals ++ comT T fu sx) ∧ Hid (comS T T.length s2 = comS T fu sx)) (fun _ _ wr => remN B wr)
    case atStart => exact ⟨n, s2, [valT T s1], u, by simp; omega, by omega, Lib.hid (by rw [List.map_singleton, HV.out]; exact hK.out.out), Lib.hid (by rw [HTL.out]; rfl), Lib.hid (by rw [HTL.out])⟩
    case round =>
      obtain ⟨fu, sx, vals, u, hv1, hv2, hKx, hcT, hcS⟩ := hrel
      have hsi := hKx.out.p.i
      obtain ⟨pu, nu, cu, eu⟩ := own_sl hKx.out.q.2.2.1
      subst eu
      obtain ⟨b, hb⟩ : ∃ b, isP T sx 4 [44] = b := ⟨_, rfl⟩
      obtain ⟨S4, hS4⟩ : ∃ S : ByteArray, (⟨(takeT T sx 4 [44]).2.1.toArray⟩ : ByteArray) = S := ⟨_, rfl⟩
      obtain ⟨k4, l4, TA⟩ := take_v hT hKx.out.p 4 ⟨#[44]⟩ hb hS4
      rw [show (⟨#[44]⟩ : ByteArray).data.toList = [44] from rfl] at TA
      cases b
      · rw [takeS_no hb] at TA
        have TA := Lib.hid TA
        obtain ⟨e1, e2⟩ := comT_no (f := fu) hb
        have HE1 : Hid (valT T s1 :: comT T T.length s2 = vals) := Lib.hid (by rw [hcT.out, e1, List.append_nil])
        have HE2 : Hid (comS T T.length s2 = sx) := Lib.hid (by rw [hcS.out, e2])
        obtain ⟨S5, hS5⟩ : ∃ S : ByteArray, (⟨(takeT T sx 4 [59]).2.1.toArray⟩ : ByteArray) = S := ⟨_, rfl⟩
        have NE := Lib.hid (fun w' (g' : Prs B g n cap T sx w') => need_v hT g' 4 ⟨#[59]⟩ hS5)
        rw [show (⟨#[59]⟩ : ByteArray).data.toList = [59] from rfl] at NE
        clear hb hS4 e1 e2 hS5
        obtain ⟨wo, rfl⟩ : ∃ x, x = wr := ⟨_, rfl⟩
        go_wp2_with (go_at_call 35; ((with_reducible refine (TA.out).mono ?_); rintro e w5 ⟨rfl, hP5, hu5⟩; have K5 := Lib.hid (hKx.out.step hu5 hP5); have K6 := Lib.hid (K5.out.alloc (.cells #[.int .i64 k4, .string S4, .int .i64 l4] 47))))
        obtain ⟨k5, l5, NE1⟩ := NE.out _ K6.out.p
        have NE1 := Lib.hid NE1
        go_wp2_with (go_at_call 18; ((with_reducible refine (NE1.out).mono ?_); rintro e w7 ⟨rfl, hP7, hu7⟩; have K7 := Lib.hid (K6.out.step hu7 hP7); obtain ⟨c0, c1, c2⟩ := K7.out.q.2.1.three; obtain ⟨r0, r1, r2⟩ := (show Bk w.heap.size #[.string ⟨#[]⟩, .slice none 0 0, .int .i64 0] w7 from K7.out.q.1).three; obtain ⟨f0, f1, f2⟩ := K7.out.q.1.free3))
        refine bodyPost_ret (v := .agg #[.string S1, .slice pu nu cu, .int .i64 l1]) (by simp [results, Try.results37, go_sem, r0, r1, r2]) rfl ?_
        have hu9 := ((K7.out.u.off (b := w.heap.size) (o := 0) (v := .string S1) (Nat.le_refl _) (by omega)).off (b := w.heap.size) (o := 1) (v := .slice pu nu cu) (Nat.le_refl _) (by omega)).off (b := w.heap.size) (o := 2) (v := .int .i64 l1) (Nat.le_refl _) (by omega)
        have hp9 := ((hP7.off (b := w.heap.size) (o := 0) (v := .string S1) (by omega) (by omega)).off (b := w.heap.size) (o := 1) (v := .slice pu nu cu) (by omega) (by omega)).off (b := w.heap.size) (o := 2) (v := .int .i64 l1) (by omega) (by omega)
        have ho := K7.out.q.2.2.1
        have hno : ∀ o, (Value.slice pu nu cu).ownBlock ≠ some (⟨w.heap.size, o, none⟩ : Addr).block := fun o hh => (K7.out.q.2.2.2 w.heap.size hh).1 rfl
        have ho9 := ownsRow_setCell_other (ownsRow_setCell_other (ownsRow_setCell_other ho (a := ⟨w.heap.size, 0, none⟩) (hno 0) (.string S1)) (a := ⟨w.heap.size, 1, none⟩) (hno 1) (.slice pu nu cu)) (a := ⟨w.heap.size, 2, none⟩) (hno 2) (.int .i64 l1)
        rw [List.length_map] at ho9
        exact ⟨_, rfl, by rw [HE1.out]; exact ho9, by rw [HE2.out]; exact hp9, hu9⟩
      · have TA := Lib.hid TA
        have hi1 : (takeS T sx 4 [44]).i = sx.i + 1 := by rw [takeS_yes hb]; unfold nextP; rw [if_neg (by decide)]
        obtain ⟨fu, rfl⟩ : ∃ f, fu = f + 1 := ⟨fu - 1, by omega⟩
        obtain ⟨e1, e2⟩ := comT_yes (f := fu) hb
        obtain ⟨sy, hsy⟩ : ∃ x, takeS T sx 4 [44] = x := ⟨_, rfl⟩
        rw [hsy] at TA e1 e2 hi1
        have hmono := valS_mono T sy
        obtain ⟨sz, hsz⟩ : ∃ x, valS T sy = x := ⟨_, rfl⟩
        obtain ⟨V2, hV2⟩ : ∃ S : ByteArray, (⟨(valT T sy).toArray⟩ : ByteArray) = S := ⟨_, rfl⟩
        have VC := Lib.hid (fun w' (g' : Prs B g n cap T sy w') => value_c hT g')
        rw [hsz, hV2] at VC
        rw [hsz] at e1 e2 hmono
        have HE1 : Hid (valT T s1 :: comT T T.length s2 = (vals ++ [valT T sy]) ++ comT T fu sz) := Lib.hid (by rw [hcT.out, e1, List.append_assoc]; rfl)
        have HE2 : Hid (comS T T.length s2 = comS T fu sz) := Lib.hid (by rw [hcS.out, e2])
        have HVV : Hid (strV (valT T sy) = .string V2) := Lib.hid (by unfold strV; rw [hV2])
        have hrem := remN_prs hKx.out.p
        clear hb hS4 e1 e2 hsy hsz hV2
        obtain ⟨wo, rfl⟩ : ∃ x, x = wr := ⟨_, rfl⟩
        go_wp2_with (go_at_call 35; ((with_reducible refine (TA.out).mono ?_); rintro e w5 ⟨rfl, hP5, hu5⟩; have K5 := Lib.hid (hKx.out.step hu5 hP5)))
        have K6 := Lib.hid (K5.out.alloc (.cells #[.int .i64 k4, .string S4, .int .i64 l4] 47))
        revert K6
        generalize w5.alloc (.cells #[.int .i64 k4, .string S4, .int .i64 l4] 47) = X2
        intro K6
        have K7 := Lib.hid K6.out.drew
        obtain ⟨a0, a1, a2⟩ := K7.out.q.2.1.three
        go_region_law (first
          | (refine step_append_str (by rfl) (by rfl) K9.out.q.2.2.1 (by rfl) (by rfl) (cell_alloc_new w8 _ _ _ 0) (by rw [List.length_map]; omega) hle8 ?_; intro v9 w9 ho9 hb9 hg9 hv9; have KG := Lib.hid (QF.grow K9.out (by omega) (by omega) hBw (by omega) (by omega) hg ho9 hb9 hg9 hv9 rfl); obtain ⟨x0, x1, x2⟩ := (QF.after K9.out.q hb9 hg9).three; obtain ⟨y0, y1, y2⟩ := (QF.after K9.out.q hb9 hg9).free3; obtain ⟨p9, n9, c9, e9⟩ := own_sl ho9; subst e9)
          | (go_simp; go_wp2_with (go_at_call 57; ((with_reducible refine (VC.out _ K7.out.p).mono ?_); rintro e w8 ⟨rfl, hP8, hu8⟩; have K8 := Lib.hid (K7.out.step hu8 hP8); have K9 := Lib.hid (K8.out.alloc (.cells #[.string V2] 9)); have hle8 := K9.out.u.below.size; obtain ⟨b0, b1, b2⟩ := K8.out.q.2.1.three; obtain ⟨c0, c1, c2⟩ := K9.out.q.2.1.three))))
        all_goals
          go_wp2_with fail
          exact ⟨⟨fu, sz, vals ++ [valT T sy], _, by rw [List.length_append, List.length_singleton]; omega, by omega, Lib.hid (by rw [List.map_append, List.map_singleton, HVV.out]; exact KG.out), HE1, HE2⟩, by rw [remN_prs KG.out.p, hrem]; have := KG.out.p.i; omega⟩

end Go.Proofs.Ythdcgplocdehjaa
