/- Rows of short Ratios: reading one, comparing two. -/
import Derived.Test.YthplbhgbgcfogaaT1
import Derived.Test.YthplbhgbgcfogaaT2
namespace Go.Proofs.Nums

/-- A Ratio in normal form that is not negative, with at most one limb in each part. -/
def ShQ (q : Q) : Prop := q.Nf ∧ q.neg = false ∧ q.n < 4294967296 ∧ q.d < 4294967296
theorem ShQ.zero : ShQ (Q.of 0) := ⟨Q.mk'_nf _ _ _, rfl, by decide, by decide⟩

end Go.Proofs.Nums
namespace Go.Proofs.Ythplbhgbgcfogaa
open Go.RowKit Go.Proofs.Kit Go.Proofs.Nums

/-- The three cells of a short Ratio. -/
def ratR (w : World) (c : List Value) (q : Q) : Prop := ∃ p l k p' l' k', c = [.bool false, .slice p l k, .slice p' l' k'] ∧ RatN w (.agg #[.bool false, .slice p l k, .slice p' l' k']) q 2 ∧ ShQ q
theorem ratR.keep {w w' : World} {c : List Value} {q : Q} (h : ratR w c q) (hb : Below w.heap.size w w') : ratR w' c q := by
  obtain ⟨p, l, k, p', l', k', h1, h2, h3⟩ := h
  exact ⟨p, l, k, p', l', k', h1, h2.keep hb, h3⟩
/-- A row of short Ratios. -/
def RatsAt (w : World) (v : Value) (l : List Q) : Prop := SliceOf ratR 3 w v l
theorem RatsAt.keep {w w' : World} {v : Value} {l : List Q} (h : RatsAt w v l) (hb : Below w.heap.size w w') : RatsAt w' v l := SliceOf.keep h hb fun _ _ g => g.keep hb
theorem RatsAt.cellsAt {w : World} {p : Option Addr} {n c : Nat} {l : List Q} (h : RatsAt w (.slice p n c) l) {k : Nat} (hk : k < l.length) {q : Q} (hq : l.getD k (Q.of 0) = q) :
    ∃ b off p1 l1 k1 p2 l2 k2, p = some ⟨b, off, none⟩ ∧ l.length ≤ c ∧ c ≤ 9223372036854775807 ∧ RatN w (.agg #[.bool false, .slice p1 l1 k1, .slice p2 l2 k2]) q 2 ∧ ShQ q ∧
      w.cell? ⟨b, off + k * 3, none⟩ = some (.bool false) ∧ w.cell? ⟨b, off + k * 3 + 1, none⟩ = some (.slice p1 l1 k1) ∧ w.cell? ⟨b, off + k * 3 + 2, none⟩ = some (.slice p2 l2 k2) := by
  obtain ⟨b, off, cap, cs, hv, h1, h2, h3, h4, h5⟩ := SliceOf.at_ (by decide) h hk
  simp only [Value.slice.injEq] at hv
  obtain ⟨rfl, _, rfl⟩ := hv
  have e : l[k] = q := by rw [← hq, List.getD_eq_getElem?_getD, List.getElem?_eq_getElem hk]; rfl
  rw [e] at h4
  obtain ⟨p1, l1, k1, p2, l2, k2, rfl, g1, g2⟩ := h4
  exact ⟨b, off, p1, l1, k1, p2, l2, k2, rfl, h1, h2, g1, g2, h5 0 _ rfl, h5 1 _ rfl, h5 2 _ rfl⟩
theorem RatsAt.shp {w : World} {v : Value} {l : List Q} (h : RatsAt w v l) : ∃ p c, v = .slice p l.length c := by
  obtain ⟨p, c, h1, _⟩ := SliceOf.shape h
  exact ⟨p, c, h1⟩
/-- What is returned: a short Ratio. -/
def GivesS (q : Q) (w : World) (e : Ending) (w' : World) : Prop := ∃ p l k p' l' k', e = .returned (.agg #[.bool false, .slice p l k, .slice p' l' k']) ∧ RatN w' (.agg #[.bool false, .slice p l k, .slice p' l' k']) q 2 ∧ ShQ q ∧ Below w.heap.size w w'

set_option maxHeartbeats 2000000 in
theorem votesOf_c {v : Value} {l : List Q} {w : World} (hv : RatsAt w v l) (c : Nat) (_hc : c < 1000) :
    Calls Try.prog 43 #[v, .int .i64 c] w (GivesS (l.getD c (Q.of 0)) w) := by
  have hlm := SliceOf.len hv
  obtain ⟨p, cp, rfl⟩ := hv.shp
  have H := Lib.hid hv
  obtain ⟨n, hn⟩ : ∃ n, l.length = n := ⟨_, rfl⟩
  have HN := Lib.hid hn
  rw [hn] at H hlm ⊢
  clear hv hn
  by_cases hlt : c < n
  · obtain ⟨q, hq⟩ : ∃ q, l.getD c (Q.of 0) = q := ⟨_, rfl⟩
    rw [hq]
    obtain ⟨b, off, p1, l1, k1, p2, l2, k2, rfl, g1, g2, g3, g4, c0, c1, c2⟩ := H.out.cellsAt (by rw [HN.out]; exact hlt) hq
    have G := Lib.hid (And.intro g3 g4)
    have d0 := cell_alloc_old (o := .cells #[.bool false, .slice none 0 0, .slice none 0 0] 43) c0
    have d1 := cell_alloc_old (o := .cells #[.bool false, .slice none 0 0, .slice none 0 0] 43) c1
    have d2 := cell_alloc_old (o := .cells #[.bool false, .slice none 0 0, .slice none 0 0] 43) c2
    have hz : (c : Int) < (n : Int) := by omega
    clear H hq g3 g4 g1 c0 c1 c2
    go_enter Try.func43, Try.ntmps43
    go_wp2_with fail
    refine bodyPost_ret (v := .agg #[.bool false, .slice p1 l1 k1, .slice p2 l2 k2]) (by simp [results, Try.results43, go_sem]) rfl ?_
    have hb : Below w.heap.size w (w.alloc (.cells #[.bool false, .slice p1 l1 k1, .slice p2 l2 k2] 43)) := (Below.refl _ _).alloc (Nat.le_refl _) _
    exact ⟨_, _, _, _, _, _, rfl, G.out.1.keep hb, G.out.2, hb⟩
  · have hz : ¬ (c : Int) < (n : Int) := by omega
    have he : l.getD c (Q.of 0) = Q.of 0 := by rw [List.getD_eq_getElem?_getD, List.getElem?_eq_none (by rw [HN.out]; omega)]; rfl
    rw [he]
    have OF : Hid (∀ w, Calls Try.prog 54 #[.int .i64 0] w fun e w' => ∃ p l k p' l' k', e = .returned (.agg #[.bool false, .slice p l k, .slice p' l' k']) ∧ RatN w' (.agg #[.bool false, .slice p l k, .slice p' l' k']) (Q.of 0) 2 ∧ Below w.heap.size w w') := Lib.hid (fun w => (of_r (z := 0) (L := 2) (by omega) (by omega) (by omega) (by omega)).mono (by
      rintro e w' ⟨v, rfl, h1, h4⟩
      have h2 := h1
      obtain ⟨p, l, k, p', l', k', rfl, _, _⟩ := h1.shape
      exact ⟨p, l, k, p', l', k', rfl, h2, h4⟩))
    have B0 := Lib.hid (Blk.new w #[.bool false, .slice none 0 0, .slice none 0 0] 43)
    have hBd : Below w.heap.size w (w.alloc (.cells #[.bool false, .slice none 0 0, .slice none 0 0] 43)) := (Below.refl _ _).alloc (Nat.le_refl _) _
    clear H he
    go_enter Try.func43, Try.ntmps43
    go_wp2_with (go_at_call 54; ((with_reducible refine (OF.out _).mono ?_); rintro e w1 ⟨p1, l1, k1, p2, l2, k2, rfl, hv1, hb1⟩; have hB1 := bel2' hBd hb1; have B1 := Lib.hid (B0.out.keep hb1); obtain ⟨m0, m1, m2⟩ := B1.out.three; obtain ⟨f0, f1, f2⟩ := B1.out.free3))
    refine bodyPost_ret (v := .agg #[.bool false, .slice p1 l1 k1, .slice p2 l2 k2]) (by simp [results, Try.results43, go_sem, m0, m1, m2]) rfl ?_
    obtain ⟨y1, y2, ev, g1, g2⟩ := hv1
    simp only [Value.agg.injEq, Array.mk.injEq, List.cons.injEq, and_true] at ev
    obtain ⟨-, rfl, rfl⟩ := ev
    have gg := retN (q := Q.of 0) hB1 (Nat.le_refl _) B1.out (by simp) (by simp) (by simp) g1 g2
    exact ⟨_, _, _, _, _, _, rfl, gg.1, ShQ.zero, gg.2⟩

set_option maxHeartbeats 2000000 in
theorem whole_f (n : Nat) (hn : n ≤ 1000000) (w : World) :
    Calls Try.prog 36 #[.int .i64 n] w (GivesF (Q.mk' false n 1) 2 w) := by
  have FR : Hid (∀ w, Calls Try.prog 46 #[.int .i64 n, .int .i64 1] w (GivesF (Q.mk' false n 1) 2 w)) := Lib.hid (fun w => fraction_f n 1 (by omega) hn (by omega) w)
  have B0 := Lib.hid (Blk.new w #[.bool false, .slice none 0 0, .slice none 0 0] 43)
  have hBd : Below w.heap.size w (w.alloc (.cells #[.bool false, .slice none 0 0, .slice none 0 0] 43)) := (Below.refl _ _).alloc (Nat.le_refl _) _
  obtain ⟨q, hq⟩ : ∃ q, Q.mk' false n 1 = q := ⟨_, rfl⟩
  rw [hq] at FR ⊢
  obtain ⟨qs, hqs⟩ : ∃ t, q.neg = t := ⟨_, rfl⟩
  have HS := Lib.hid hqs
  have F2 : Hid (∀ w, Calls Try.prog 46 #[.int .i64 n, .int .i64 1] w fun e w' => ∃ p l k p' l' k', e = .returned (.agg #[.bool qs, .slice p l k, .slice p' l' k']) ∧ RatN w' (.agg #[.bool qs, .slice p l k, .slice p' l' k']) q 2 ∧ Fresh w.heap.size (.slice p l k) ∧ Fresh w.heap.size (.slice p' l' k') ∧ Below w.heap.size w w') := Lib.hid (fun w => by rw [← hqs]; exact FR.out w)
  clear FR hq hqs
  go_enter Try.func36, Try.ntmps36
  go_wp2_with (go_at_call 46; ((with_reducible refine (F2.out _).mono ?_); rintro e w1 ⟨p1, l1, k1, p2, l2, k2, rfl, hv1, hf1, hf2, hb1⟩; have hB1 := bel2' hBd hb1; have B1 := Lib.hid (B0.out.keep hb1); obtain ⟨m0, m1, m2⟩ := B1.out.three; obtain ⟨f0, f1, f2⟩ := B1.out.free3))
  refine bodyPost_ret (v := .agg #[.bool qs, .slice p1 l1 k1, .slice p2 l2 k2]) (by simp [results, Try.results36, go_sem, m0, m1, m2]) rfl ?_
  obtain ⟨y1, y2, ev, g1, g2⟩ := hv1
  simp only [Value.agg.injEq, Array.mk.injEq, List.cons.injEq, and_true] at ev
  obtain ⟨-, rfl, rfl⟩ := ev
  have gg := retN (q := q) hB1 (Nat.le_refl _) B1.out (by simp) (by simp) (by simp) g1 g2
  rw [HS.out] at gg
  unfold GivesF
  rw [HS.out]
  have hsz := hBd.size
  exact ⟨_, _, _, _, _, _, rfl, gg.1, hf1.mono hsz, hf2.mono hsz, gg.2⟩

set_option maxHeartbeats 2000000 in
theorem number_c {v : Value} {l : List Q} {w : World} (hv : RatsAt w v l) (c : Nat) (_hc : c < 1000) :
    Calls Try.prog 45 #[v, .int .i64 c] w (GivesS (l.getD c (Q.of 0)) w) := by
  have hlm := SliceOf.len hv
  obtain ⟨p, cp, rfl⟩ := hv.shp
  have H := Lib.hid hv
  obtain ⟨n, hn⟩ : ∃ n, l.length = n := ⟨_, rfl⟩
  have HN := Lib.hid hn
  rw [hn] at H hlm ⊢
  clear hv hn
  by_cases hlt : c < n
  · obtain ⟨q, hq⟩ : ∃ q, l.getD c (Q.of 0) = q := ⟨_, rfl⟩
    rw [hq]
    obtain ⟨b, off, p1, l1, k1, p2, l2, k2, rfl, g1, g2, g3, g4, c0, c1, c2⟩ := H.out.cellsAt (by rw [HN.out]; exact hlt) hq
    have G := Lib.hid (And.intro g3 g4)
    have d0 := cell_alloc_old (o := .cells #[.bool false, .slice none 0 0, .slice none 0 0] 43) c0
    have d1 := cell_alloc_old (o := .cells #[.bool false, .slice none 0 0, .slice none 0 0] 43) c1
    have d2 := cell_alloc_old (o := .cells #[.bool false, .slice none 0 0, .slice none 0 0] 43) c2
    have hz : (c : Int) < (n : Int) := by omega
    clear H hq g3 g4 g1 c0 c1 c2
    go_enter Try.func45, Try.ntmps45
    go_wp2_with fail
    refine bodyPost_ret (v := .agg #[.bool false, .slice p1 l1 k1, .slice p2 l2 k2]) (by simp [results, Try.results45, go_sem]) rfl ?_
    have hb : Below w.heap.size w (w.alloc (.cells #[.bool false, .slice p1 l1 k1, .slice p2 l2 k2] 43)) := (Below.refl _ _).alloc (Nat.le_refl _) _
    exact ⟨_, _, _, _, _, _, rfl, G.out.1.keep hb, G.out.2, hb⟩
  · have hz : ¬ (c : Int) < (n : Int) := by omega
    have he : l.getD c (Q.of 0) = Q.of 0 := by rw [List.getD_eq_getElem?_getD, List.getElem?_eq_none (by rw [HN.out]; omega)]; rfl
    rw [he]
    have OF : Hid (∀ w, Calls Try.prog 36 #[.int .i64 0] w fun e w' => ∃ p l k p' l' k', e = .returned (.agg #[.bool false, .slice p l k, .slice p' l' k']) ∧ RatN w' (.agg #[.bool false, .slice p l k, .slice p' l' k']) (Q.of 0) 2 ∧ Below w.heap.size w w') := Lib.hid (fun w => (whole_f 0 (by omega) w).mono (by
      rintro e w' ⟨p, l, k, p', l', k', rfl, h1, _, _, h4⟩
      exact ⟨p, l, k, p', l', k', rfl, h1, h4⟩))
    have B0 := Lib.hid (Blk.new w #[.bool false, .slice none 0 0, .slice none 0 0] 43)
    have hBd : Below w.heap.size w (w.alloc (.cells #[.bool false, .slice none 0 0, .slice none 0 0] 43)) := (Below.refl _ _).alloc (Nat.le_refl _) _
    clear H he
    go_enter Try.func45, Try.ntmps45
    go_wp2_with (go_at_call 36; ((with_reducible refine (OF.out _).mono ?_); rintro e w1 ⟨p1, l1, k1, p2, l2, k2, rfl, hv1, hb1⟩; have hB1 := bel2' hBd hb1; have B1 := Lib.hid (B0.out.keep hb1); obtain ⟨m0, m1, m2⟩ := B1.out.three; obtain ⟨f0, f1, f2⟩ := B1.out.free3))
    refine bodyPost_ret (v := .agg #[.bool false, .slice p1 l1 k1, .slice p2 l2 k2]) (by simp [results, Try.results45, go_sem, m0, m1, m2]) rfl ?_
    obtain ⟨y1, y2, ev, g1, g2⟩ := hv1
    simp only [Value.agg.injEq, Array.mk.injEq, List.cons.injEq, and_true] at ev
    obtain ⟨-, rfl, rfl⟩ := ev
    have gg := retN (q := Q.of 0) hB1 (Nat.le_refl _) B1.out (by simp) (by simp) (by simp) g1 g2
    exact ⟨_, _, _, _, _, _, rfl, gg.1, ShQ.zero, gg.2⟩

end Go.Proofs.Ythplbhgbgcfogaa
