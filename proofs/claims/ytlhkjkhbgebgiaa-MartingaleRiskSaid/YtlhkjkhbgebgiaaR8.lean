import Derived.Test.YtlhkjkhbgebgiaaM4
import Derived.Test.YtlhkjkhbgebgiaaGE
import Derived.Test.YtlhkjkhbgebgiaaMV
import Derived.Test.YtlhkjkhbgebgiaaGD
namespace Go.Proofs.Ytlhkjkhbgebgiaa
open Go.RowKit Go.Proofs.Kit Go.Proofs.Nums

/-- v is a number of the reference with these fields. -/
def RAt (w : World) (v : Value) (q : Q) : Prop := ∃ vn vd, v = .agg #[.bool q.neg, vn, vd] ∧ BitAt w vn (bitsN q.n) ∧ BitAt w vd (bitsN q.d)
/-- .. whose bits lie in no block below B. -/
def RFr (w : World) (v : Value) (q : Q) (B : Nat) : Prop := ∃ vn vd, v = .agg #[.bool q.neg, vn, vd] ∧ BitAt w vn (bitsN q.n) ∧ BitAt w vd (bitsN q.d) ∧ Fresh B vn ∧ Fresh B vd
theorem RAt.keep {w w' : World} {v : Value} {q : Q} (h : RAt w v q) (hb : Below w.heap.size w w') : RAt w' v q := by
  obtain ⟨vn, vd, h1, h2, h3⟩ := h; exact ⟨vn, vd, h1, h2.keep hb, h3.keep hb⟩
theorem RFr.at {w : World} {v : Value} {q : Q} {B : Nat} (h : RFr w v q B) : RAt w v q := by
  obtain ⟨vn, vd, h1, h2, h3, _, _⟩ := h; exact ⟨vn, vd, h1, h2, h3⟩
theorem BitAt.shp {w : World} {v : Value} {l : List Bool} (h : BitAt w v l) : ∃ p n c, v = .slice p n c := by
  obtain ⟨p, c, h1⟩ := h.shape; exact ⟨p, _, c, h1⟩
theorem RAt.shape {w : World} {v : Value} {q : Q} (h : RAt w v q) : ∃ p1 l1 k1 p2 l2 k2, v = .agg #[.bool q.neg, .slice p1 l1 k1, .slice p2 l2 k2] ∧ BitAt w (.slice p1 l1 k1) (bitsN q.n) ∧ BitAt w (.slice p2 l2 k2) (bitsN q.d) := by
  obtain ⟨vn, vd, rfl, h1, h2⟩ := h
  obtain ⟨p1, l1, k1, rfl⟩ := h1.shp
  obtain ⟨p2, l2, k2, rfl⟩ := h2.shp
  exact ⟨_, _, _, _, _, _, rfl, h1, h2⟩
theorem RFr.shape {w : World} {v : Value} {q : Q} {B : Nat} (h : RFr w v q B) : ∃ p1 l1 k1 p2 l2 k2, v = .agg #[.bool q.neg, .slice p1 l1 k1, .slice p2 l2 k2] ∧ BitAt w (.slice p1 l1 k1) (bitsN q.n) ∧ BitAt w (.slice p2 l2 k2) (bitsN q.d) ∧ Fresh B (.slice p1 l1 k1) ∧ Fresh B (.slice p2 l2 k2) := by
  obtain ⟨vn, vd, rfl, h1, h2, h3, h4⟩ := h
  obtain ⟨p1, l1, k1, rfl⟩ := h1.shp
  obtain ⟨p2, l2, k2, rfl⟩ := h2.shp
  exact ⟨_, _, _, _, _, _, rfl, h1, h2, h3, h4⟩

/-- A block of the call's own, with these cells. -/
def Blk (b : Nat) (cs : Array Value) (w : World) : Prop := b < w.heap.size ∧ (∀ o, w.cell? ⟨b, o, none⟩ = cs[o]?) ∧ (∀ o, w.frozen? ⟨b, o, none⟩ = false)
theorem Blk.keep {b : Nat} {cs : Array Value} {w w' : World} (h : Blk b cs w) (hb : Below w.heap.size w w') : Blk b cs w' :=
  ⟨Nat.lt_of_lt_of_le h.1 hb.size, fun o => by rw [hb.cell (p := ⟨b, o, none⟩) h.1, h.2.1], fun o => by rw [hb.frozen (p := ⟨b, o, none⟩) h.1, h.2.2]⟩
theorem Blk.new (w : World) (cs : Array Value) (T : TypeId) : Blk w.heap.size cs (w.alloc (.cells cs T)) :=
  ⟨by simp, fun o => cell_alloc_new w cs T (0, 0) o, fun o => by
    have h := heap_alloc_new w (.cells cs T)
    unfold World.frozen?
    rw [h]
    simp⟩
theorem Blk.alloc {b : Nat} {cs : Array Value} {w : World} (h : Blk b cs w) (o : Obj) : Blk b cs (w.alloc o) := h.keep ((Below.refl _ _).alloc (Nat.le_refl _) _)
theorem Blk.drew {b : Nat} {cs : Array Value} {w : World} (h : Blk b cs w) : Blk b cs w.drew := h.keep (Below.refl _ _).drew
theorem Blk.three {b : Nat} {x y z : Value} {w : World} (h : Blk b #[x, y, z] w) : w.cell? ⟨b, 0, none⟩ = some x ∧ w.cell? ⟨b, 1, none⟩ = some y ∧ w.cell? ⟨b, 2, none⟩ = some z := ⟨h.2.1 0, h.2.1 1, h.2.1 2⟩
theorem Blk.free3 {b : Nat} {cs : Array Value} {w : World} (h : Blk b cs w) : w.frozen? ⟨b, 0, none⟩ = false ∧ w.frozen? ⟨b, 1, none⟩ = false ∧ w.frozen? ⟨b, 2, none⟩ = false := ⟨h.2.2 0, h.2.2 1, h.2.2 2⟩

theorem BitAt.put3 {w : World} {v : Value} {l : List Bool} {b : Nat} {x y z : Value} (h : BitAt w v l) (hf : Fresh (b + 1) v) : BitAt (((w.setCell ⟨b, 0, none⟩ x).setCell ⟨b, 1, none⟩ y).setCell ⟨b, 2, none⟩ z) v l :=
  RowAt.same h fun k hk => heap_set3 w b x y z k (by have := hf k hk; omega)

/-- A struct of the reference is stored in block b, of the call's own, and handed back. -/
theorem retR {w0 w : World} {B b : Nat} {q : Q} {vn vd : Value} (hw : Below B w0 w) (hB : B ≤ b) (h : RFr w (.agg #[.bool q.neg, vn, vd]) q (b + 1)) :
    RFr (((w.setCell ⟨b, 0, none⟩ (.bool q.neg)).setCell ⟨b, 1, none⟩ vn).setCell ⟨b, 2, none⟩ vd) (.agg #[.bool q.neg, vn, vd]) q B ∧
    Below B w0 (((w.setCell ⟨b, 0, none⟩ (.bool q.neg)).setCell ⟨b, 1, none⟩ vn).setCell ⟨b, 2, none⟩ vd) := by
  obtain ⟨x, y, h1, h2, h3, h4, h5⟩ := h
  simp only [Value.agg.injEq, Array.mk.injEq, List.cons.injEq, true_and, and_true] at h1
  obtain ⟨rfl, rfl⟩ := h1
  exact ⟨⟨_, _, rfl, h2.put3 h4, h3.put3 h5, h4.mono (by omega), h5.mono (by omega)⟩, below_set3 hw hB _ _ _⟩
/-- A Ratio is stored in block b, that holds no limb, and handed back. -/
theorem retN {w0 w : World} {B b L : Nat} {q : Q} {vn vd : Value} {x y z : Value} (hw : Below B w0 w) (hB : B ≤ b) (hb : Blk b #[x, y, z] w) (hx : ∀ t, x ≠ Value.int .u32 t) (hy : ∀ t, y ≠ Value.int .u32 t) (hz : ∀ t, z ≠ Value.int .u32 t) (hn : Nrm w vn q.n L) (hd : Nrm w vd q.d L) :
    RatN (((w.setCell ⟨b, 0, none⟩ (.bool q.neg)).setCell ⟨b, 1, none⟩ vn).setCell ⟨b, 2, none⟩ vd) (.agg #[.bool q.neg, vn, vd]) q L ∧
    Below B w0 (((w.setCell ⟨b, 0, none⟩ (.bool q.neg)).setCell ⟨b, 1, none⟩ vn).setCell ⟨b, 2, none⟩ vd) := by
  have HN : NoLimb w b := fun o t => by rw [hb.2.1]; exact noLimb3 hx hy hz o t
  exact ⟨⟨_, _, rfl, hn.off (heap_set3 _ _ _ _ _) HN, hd.off (heap_set3 _ _ _ _ _) HN⟩, below_set3 hw hB _ _ _⟩

theorem Fresh.le {B B' : Nat} {v : Value} (h : Fresh B v) (hB : B' ≤ B) : Fresh B' v := h.mono hB

set_option maxHeartbeats 4000000 in
theorem rnorm_r {neg : Bool} {vn vd : Value} {n d : Nat} {w : World} (hn : BitAt w vn (bitsN n)) (hd : BitAt w vd (bitsN d)) (h1 : (bitsN n).length ≤ 40000) (h2 : (bitsN d).length ≤ 40000) :
    Calls Try.prog 61 #[.bool neg, vn, vd] w fun e w' => ∃ v, e = .returned v ∧ RFr w' v (Q.mk' neg n d) w.heap.size ∧ Below w.heap.size w w' := by
  obtain ⟨p1, k1, rfl⟩ := hn.shape
  obtain ⟨p2, k2, rfl⟩ := hd.shape
  have ka : ∀ {o : Obj} {v : Value} {l : List Bool}, BitAt w v l → BitAt (w.alloc o) v l := fun h => h.keep ((Below.refl _ _).alloc (Nat.le_refl _) _)
  have HN := Lib.hid (fun o => ka (o := o) hn)
  have HD := Lib.hid (fun o => ka (o := o) hd)
  have SM : Hid (∀ w, Calls Try.prog 66 #[.int .i64 1] w fun e w' => ∃ v', e = .returned v' ∧ BitAt w' v' (bitsN 1) ∧ Fresh w.heap.size v' ∧ Below w.heap.size w w') := Lib.hid (fun w => small_f 1 w (by omega))
  have H1 := Lib.hid h1
  have H2 := Lib.hid h2
  have hBN := Blk.new w #[.bool false, .slice none 0 0, .slice none 0 0] 77
  have HB := Lib.hid hBN
  clear hn hd ka hBN
  rcases Nat.eq_zero_or_pos n with h0 | h0
  · subst h0
    rw [Q.mk'_zero (.inl rfl)]
    have hz : (bitsN 0).length = 0 := rfl
    go_enter Try.func61, Try.ntmps61
    go_wp2_with (go_at_call 66; ((with_reducible refine (SM.out _).mono ?_); rintro e w1 ⟨v1, rfl, hv1, hf1, hb1⟩; obtain ⟨q1, r1, t1, rfl⟩ := hv1.shp; have B1 := HB.out.keep hb1; obtain ⟨c0, c1, c2⟩ := B1.three; obtain ⟨f0, f1, f2⟩ := B1.free3))
    refine bodyPost_ret (v := .agg #[.bool false, .slice none 0 0, .slice q1 r1 t1]) (by simp [results, Try.results61, go_sem, c0, c1, c2]) rfl ?_
    exact ⟨_, rfl, retR (q := ⟨false, 0, 1⟩) (below_on hb1) (Nat.le_refl _) ⟨_, _, rfl, BitAt.nil _, hv1, Fresh.nil _, hf1.mono (by simp)⟩⟩
  · have hzn : (((bitsN n).length : Int) == 0) = false := by rw [beq_eq_false_iff_ne]; have := bits_len_pos h0; omega
    rcases Nat.eq_zero_or_pos d with h3 | h3
    · subst h3
      rw [Q.mk'_zero (.inr rfl)]
      have hz : (bitsN 0).length = 0 := rfl
      clear h0
      go_enter Try.func61, Try.ntmps61
      go_wp2_with (go_at_call 66; ((with_reducible refine (SM.out _).mono ?_); rintro e w1 ⟨v1, rfl, hv1, hf1, hb1⟩; obtain ⟨q1, r1, t1, rfl⟩ := hv1.shp; have B1 := HB.out.keep hb1; obtain ⟨c0, c1, c2⟩ := B1.three; obtain ⟨f0, f1, f2⟩ := B1.free3))
      refine bodyPost_ret (v := .agg #[.bool false, .slice none 0 0, .slice q1 r1 t1]) (by simp [results, Try.results61, go_sem, c0, c1, c2]) rfl ?_
      exact ⟨_, rfl, retR (q := ⟨false, 0, 1⟩) (below_on hb1) (Nat.le_refl _) ⟨_, _, rfl, BitAt.nil _, hv1, Fresh.nil _, hf1.mono (by simp)⟩⟩
    · have hzd : (((bitsN d).length : Int) == 0) = false := by rw [beq_eq_false_iff_ne]; have := bits_len_pos h3; omega
      rw [Q.mk'_pos h0 h3]
      have HG := Lib.hid (Nat.gcd_pos_of_pos_left d h0)
      have GC := Lib.hid (fun va vb w (h : BitAt w va (bitsN n)) (h' : BitAt w vb (bitsN d)) => rgcd_n va vb n d w h h' h1 h2)
      have HGL : Hid ((bitsN (Nat.gcd n d)).length ≤ 40000) := Lib.hid (Nat.le_trans (bits_len_mono (Nat.gcd_le_left d h0)) h1)
      obtain ⟨g, hg⟩ : ∃ g, Nat.gcd n d = g := ⟨_, rfl⟩
      rw [hg] at HG GC HGL ⊢
      clear hg h0 h3
      go_enter Try.func61, Try.ntmps61
      go_wp2_with (first
        | (go_at_call 74; ((with_reducible refine (GC.out _ _ _ (HN.out _) (HD.out _)).mono ?_); rintro e w3 ⟨v3, rfl, hg3, hb3⟩; have hn3 := (HN.out _).keep hb3; have hd3 := (HD.out _).keep hb3))
        | (go_at_call 75; ((with_reducible refine (rdiv_f _ _ n g _ hn3 hg3 H1.out HGL.out HG.out).mono ?_); rintro e w4 ⟨vq4, vr4, rfl, hq4, hr4, hfq4, hfr4, hb4⟩; have hb4' := bel2' hb3 hb4; have hd4 := hd3.keep hb4; have hg4 := hg3.keep hb4; clear hn3 hd3))
        | (go_at_call 75; ((with_reducible refine (rdiv_f _ _ d g _ hd4 hg4 H2.out HGL.out HG.out).mono ?_); rintro e w5 ⟨vq5, vr5, rfl, hq5, hr5, hfq5, hfr5, hb5⟩; have hb5' := bel2' hb4' hb5; have hq4b := hq4.keep hb5; obtain ⟨a1, b1, e1, rfl⟩ := hq4b.shp; obtain ⟨a2, b2, e2, rfl⟩ := hq5.shp; have B5 := HB.out.keep hb5'; obtain ⟨c0, c1, c2⟩ := B5.three; obtain ⟨f0, f1, f2⟩ := B5.free3)))
      refine bodyPost_ret (v := .agg #[.bool neg, .slice a1 b1 e1, .slice a2 b2 e2]) (by simp [results, Try.results61, go_sem, c0, c1, c2]) rfl ?_
      have z1 : w.heap.size + 1 ≤ w3.heap.size := by have := hb3.size; simp at this; omega
      have z2 : w.heap.size + 1 ≤ w4.heap.size := Nat.le_trans z1 hb4.size
      exact ⟨_, rfl, retR (q := ⟨neg, n / g, d / g⟩) (below_on hb5') (Nat.le_refl _) ⟨_, _, rfl, hq4b, hq5, hfq4.mono z1, hfq5.mono z2⟩⟩

end Go.Proofs.Ytlhkjkhbgebgiaa
