/- Contracts and plain facts, part 6: R8, T0, R7, R9, R10, T1, T2, T5, T6, T4, T7. No condition beyond those that each theorem states. -/
import Derived.Test.YtbnhgmikegdppaaGreatQE
import Derived.Deep.RegionHeld3
namespace Go.Proofs.YtbnhgmikegdppaaGreat
open Go.RowKit Go.Proofs.Kit Go.Proofs.Nums

/-- v is a number of the reference with these fields. -/
def RAt (w : World) (v : Value) (q : Q) : Prop := ∃ vn vd, v = .agg #[.bool q.neg, vn, vd] ∧ BitAt w vn (bitsN q.n) ∧ BitAt w vd (bitsN q.d)
/-- .. whose bits lie in no block below B. -/
def RFr (w : World) (v : Value) (q : Q) (B : Nat) : Prop := ∃ vn vd, v = .agg #[.bool q.neg, vn, vd] ∧ BitAt w vn (bitsN q.n) ∧ BitAt w vd (bitsN q.d) ∧ Fresh B vn ∧ Fresh B vd
theorem RAt.keep {w w' : World} {v : Value} {q : Q} (h : RAt w v q) (hb : Below w.heap.size w w') : RAt w' v q := by
  obtain ⟨vn, vd, h1, h2, h3⟩ := h; exact ⟨vn, vd, h1, h2.keep hb, h3.keep hb⟩
theorem RFr.at {w : World} {v : Value} {q : Q} {B : Nat} (h : RFr w v q B) : RAt w v q := by
  obtain ⟨vn, vd, h1, h2, h3, _, _⟩ := h; exact ⟨vn, vd, h1, h2, h3⟩
theorem BitAt.shp {w : World} {v : Value} {l : List Bool} (h : BitAt w v l) : ∃ p n c, v = .slice p n c := by
  obtain ⟨p, c, h1⟩ := h.shape; exact ⟨p, _, c, h1⟩
theorem RAt.shape {w : World} {v : Value} {q : Q} (h : RAt w v q) : ∃ p1 l1 k1 p2 l2 k2, v = .agg #[.bool q.neg, .slice p1 l1 k1, .slice p2 l2 k2] ∧ BitAt w (.slice p1 l1 k1) (bitsN q.n) ∧ BitAt w (.slice p2 l2 k2) (bitsN q.d) := by
  obtain ⟨vn, vd, rfl, h1, h2⟩ := h
  obtain ⟨p1, l1, k1, rfl⟩ := h1.shp
  obtain ⟨p2, l2, k2, rfl⟩ := h2.shp
  exact ⟨_, _, _, _, _, _, rfl, h1, h2⟩
theorem RFr.shape {w : World} {v : Value} {q : Q} {B : Nat} (h : RFr w v q B) : ∃ p1 l1 k1 p2 l2 k2, v = .agg #[.bool q.neg, .slice p1 l1 k1, .slice p2 l2 k2] ∧ BitAt w (.slice p1 l1 k1) (bitsN q.n) ∧ BitAt w (.slice p2 l2 k2) (bitsN q.d) ∧ Fresh B (.slice p1 l1 k1) ∧ Fresh B (.slice p2 l2 k2) := by
  obtain ⟨vn, vd, rfl, h1, h2, h3, h4⟩ := h
  obtain ⟨p1, l1, k1, rfl⟩ := h1.shp
  obtain ⟨p2, l2, k2, rfl⟩ := h2.shp
  exact ⟨_, _, _, _, _, _, rfl, h1, h2, h3, h4⟩

/-- A block of the call's own, with these cells. -/
def Blk (b : Nat) (cs : Array Value) (w : World) : Prop := b < w.heap.size ∧ (∀ o, w.cell? ⟨b, o, none⟩ = cs[o]?) ∧ (∀ o, w.frozen? ⟨b, o, none⟩ = false)
theorem Blk.keep {b : Nat} {cs : Array Value} {w w' : World} (h : Blk b cs w) (hb : Below w.heap.size w w') : Blk b cs w' :=
  ⟨Nat.lt_of_lt_of_le h.1 hb.size, fun o => by rw [hb.cell (p := ⟨b, o, none⟩) h.1, h.2.1], fun o => by rw [hb.frozen (p := ⟨b, o, none⟩) h.1, h.2.2]⟩
theorem Blk.new (w : World) (cs : Array Value) (T : TypeId) : Blk w.heap.size cs (w.alloc (.cells cs T)) :=
  ⟨by simp, fun o => cell_alloc_new w cs T (0, 0) o, fun o => by
    have h := heap_alloc_new w (.cells cs T)
    unfold World.frozen?
    rw [h]
    simp⟩
theorem Blk.alloc {b : Nat} {cs : Array Value} {w : World} (h : Blk b cs w) (o : Obj) : Blk b cs (w.alloc o) := h.keep ((Below.refl _ _).alloc (Nat.le_refl _) _)
theorem Blk.drew {b : Nat} {cs : Array Value} {w : World} (h : Blk b cs w) : Blk b cs w.drew := h.keep (Below.refl _ _).drew
theorem Blk.three {b : Nat} {x y z : Value} {w : World} (h : Blk b #[x, y, z] w) : w.cell? ⟨b, 0, none⟩ = some x ∧ w.cell? ⟨b, 1, none⟩ = some y ∧ w.cell? ⟨b, 2, none⟩ = some z := ⟨h.2.1 0, h.2.1 1, h.2.1 2⟩
theorem Blk.free3 {b : Nat} {cs : Array Value} {w : World} (h : Blk b cs w) : w.frozen? ⟨b, 0, none⟩ = false ∧ w.frozen? ⟨b, 1, none⟩ = false ∧ w.frozen? ⟨b, 2, none⟩ = false := ⟨h.2.2 0, h.2.2 1, h.2.2 2⟩

theorem BitAt.put3 {w : World} {v : Value} {l : List Bool} {b : Nat} {x y z : Value} (h : BitAt w v l) (hf : Fresh (b + 1) v) : BitAt (((w.setCell ⟨b, 0, none⟩ x).setCell ⟨b, 1, none⟩ y).setCell ⟨b, 2, none⟩ z) v l :=
  RowAt.same h fun k hk => heap_set3 w b x y z k (by have := hf k hk; omega)

/-- A struct of the reference is stored in block b, of the call's own, and handed back. -/
theorem retR {w0 w : World} {B b : Nat} {q : Q} {vn vd : Value} (hw : Below B w0 w) (hB : B ≤ b) (h : RFr w (.agg #[.bool q.neg, vn, vd]) q (b + 1)) :
    RFr (((w.setCell ⟨b, 0, none⟩ (.bool q.neg)).setCell ⟨b, 1, none⟩ vn).setCell ⟨b, 2, none⟩ vd) (.agg #[.bool q.neg, vn, vd]) q B ∧
    Below B w0 (((w.setCell ⟨b, 0, none⟩ (.bool q.neg)).setCell ⟨b, 1, none⟩ vn).setCell ⟨b, 2, none⟩ vd) := by
  obtain ⟨x, y, h1, h2, h3, h4, h5⟩ := h
  simp only [Value.agg.injEq, Array.mk.injEq, List.cons.injEq, true_and, and_true] at h1
  obtain ⟨rfl, rfl⟩ := h1
  exact ⟨⟨_, _, rfl, h2.put3 h4, h3.put3 h5, h4.mono (by omega), h5.mono (by omega)⟩, below_set3 hw hB _ _ _⟩
/-- A Ratio is stored in block b, that holds no limb, and handed back. -/
theorem retN {w0 w : World} {B b L : Nat} {q : Q} {vn vd : Value} {x y z : Value} (hw : Below B w0 w) (hB : B ≤ b) (hb : Blk b #[x, y, z] w) (hx : ∀ t, x ≠ Value.int .u32 t) (hy : ∀ t, y ≠ Value.int .u32 t) (hz : ∀ t, z ≠ Value.int .u32 t) (hn : Nrm w vn q.n L) (hd : Nrm w vd q.d L) :
    RatN (((w.setCell ⟨b, 0, none⟩ (.bool q.neg)).setCell ⟨b, 1, none⟩ vn).setCell ⟨b, 2, none⟩ vd) (.agg #[.bool q.neg, vn, vd]) q L ∧
    Below B w0 (((w.setCell ⟨b, 0, none⟩ (.bool q.neg)).setCell ⟨b, 1, none⟩ vn).setCell ⟨b, 2, none⟩ vd) := by
  have HN : NoLimb w b := fun o t => by rw [hb.2.1]; exact noLimb3 hx hy hz o t
  exact ⟨⟨_, _, rfl, hn.off (heap_set3 _ _ _ _ _) HN, hd.off (heap_set3 _ _ _ _ _) HN⟩, below_set3 hw hB _ _ _⟩

theorem Fresh.le {B B' : Nat} {v : Value} (h : Fresh B v) (hB : B' ≤ B) : Fresh B' v := h.mono hB

set_option maxHeartbeats 4000000 in
theorem rnorm_r {neg : Bool} {vn vd : Value} {n d : Nat} {w : World} (hn : BitAt w vn (bitsN n)) (hd : BitAt w vd (bitsN d)) (h1 : (bitsN n).length ≤ 40000) (h2 : (bitsN d).length ≤ 40000) :
    Calls Tryz.prog 108 #[.bool neg, vn, vd] w fun e w' => ∃ v, e = .returned v ∧ RFr w' v (Q.mk' neg n d) w.heap.size ∧ Below w.heap.size w w' := by
  obtain ⟨p1, k1, rfl⟩ := hn.shape
  obtain ⟨p2, k2, rfl⟩ := hd.shape
  have ka : ∀ {o : Obj} {v : Value} {l : List Bool}, BitAt w v l → BitAt (w.alloc o) v l := fun h => h.keep ((Below.refl _ _).alloc (Nat.le_refl _) _)
  have HN := Lib.hid (fun o => ka (o := o) hn)
  have HD := Lib.hid (fun o => ka (o := o) hd)
  have SM : Hid (∀ w, Calls Tryz.prog 117 #[.int .i64 1] w fun e w' => ∃ v', e = .returned v' ∧ BitAt w' v' (bitsN 1) ∧ Fresh w.heap.size v' ∧ Below w.heap.size w w') := Lib.hid (fun w => small_f 1 w (by omega))
  have H1 := Lib.hid h1
  have H2 := Lib.hid h2
  have hBN := Blk.new w #[.bool false, .slice none 0 0, .slice none 0 0] 125
  have HB := Lib.hid hBN
  clear hn hd ka hBN
  rcases Nat.eq_zero_or_pos n with h0 | h0
  · subst h0
    rw [Q.mk'_zero (.inl rfl)]
    have hz : (bitsN 0).length = 0 := rfl
    go_enter Tryz.func108, Tryz.ntmps108
    go_wp2_with (go_at_call 117; ((with_reducible refine (SM.out _).mono ?_); rintro e w1 ⟨v1, rfl, hv1, hf1, hb1⟩; obtain ⟨q1, r1, t1, rfl⟩ := hv1.shp; have B1 := HB.out.keep hb1; obtain ⟨c0, c1, c2⟩ := B1.three; obtain ⟨f0, f1, f2⟩ := B1.free3))
    refine bodyPost_ret (v := .agg #[.bool false, .slice none 0 0, .slice q1 r1 t1]) (by simp [results, Tryz.results108, go_sem, c0, c1, c2]) rfl ?_
    exact ⟨_, rfl, retR (q := ⟨false, 0, 1⟩) (below_on hb1) (Nat.le_refl _) ⟨_, _, rfl, BitAt.nil _, hv1, Fresh.nil _, hf1.mono (by simp)⟩⟩
  · have hzn : (((bitsN n).length : Int) == 0) = false := by rw [beq_eq_false_iff_ne]; have := bits_len_pos h0; omega
    rcases Nat.eq_zero_or_pos d with h3 | h3
    · subst h3
      rw [Q.mk'_zero (.inr rfl)]
      have hz : (bitsN 0).length = 0 := rfl
      clear h0
      go_enter Tryz.func108, Tryz.ntmps108
      go_wp2_with (go_at_call 117; ((with_reducible refine (SM.out _).mono ?_); rintro e w1 ⟨v1, rfl, hv1, hf1, hb1⟩; obtain ⟨q1, r1, t1, rfl⟩ := hv1.shp; have B1 := HB.out.keep hb1; obtain ⟨c0, c1, c2⟩ := B1.three; obtain ⟨f0, f1, f2⟩ := B1.free3))
      refine bodyPost_ret (v := .agg #[.bool false, .slice none 0 0, .slice q1 r1 t1]) (by simp [results, Tryz.results108, go_sem, c0, c1, c2]) rfl ?_
      exact ⟨_, rfl, retR (q := ⟨false, 0, 1⟩) (below_on hb1) (Nat.le_refl _) ⟨_, _, rfl, BitAt.nil _, hv1, Fresh.nil _, hf1.mono (by simp)⟩⟩
    · have hzd : (((bitsN d).length : Int) == 0) = false := by rw [beq_eq_false_iff_ne]; have := bits_len_pos h3; omega
      rw [Q.mk'_pos h0 h3]
      have HG := Lib.hid (Nat.gcd_pos_of_pos_left d h0)
      have GC := Lib.hid (fun va vb w (h : BitAt w va (bitsN n)) (h' : BitAt w vb (bitsN d)) => rgcd_n va vb n d w h h' h1 h2)
      have HGL : Hid ((bitsN (Nat.gcd n d)).length ≤ 40000) := Lib.hid (Nat.le_trans (bits_len_mono (Nat.gcd_le_left d h0)) h1)
      obtain ⟨g, hg⟩ : ∃ g, Nat.gcd n d = g := ⟨_, rfl⟩
      rw [hg] at HG GC HGL ⊢
      clear hg h0 h3
      go_enter Tryz.func108, Tryz.ntmps108
      go_wp2_with (first
        | (go_at_call 118; ((with_reducible refine (GC.out _ _ _ (HN.out _) (HD.out _)).mono ?_); rintro e w3 ⟨v3, rfl, hg3, hb3⟩; have hn3 := (HN.out _).keep hb3; have hd3 := (HD.out _).keep hb3))
        | (go_at_call 119; ((with_reducible refine (rdiv_f _ _ n g _ hn3 hg3 H1.out HGL.out HG.out).mono ?_); rintro e w4 ⟨vq4, vr4, rfl, hq4, hr4, hfq4, hfr4, hb4⟩; have hb4' := bel2' hb3 hb4; have hd4 := hd3.keep hb4; have hg4 := hg3.keep hb4; clear hn3 hd3))
        | (go_at_call 119; ((with_reducible refine (rdiv_f _ _ d g _ hd4 hg4 H2.out HGL.out HG.out).mono ?_); rintro e w5 ⟨vq5, vr5, rfl, hq5, hr5, hfq5, hfr5, hb5⟩; have hb5' := bel2' hb4' hb5; have hq4b := hq4.keep hb5; obtain ⟨a1, b1, e1, rfl⟩ := hq4b.shp; obtain ⟨a2, b2, e2, rfl⟩ := hq5.shp; have B5 := HB.out.keep hb5'; obtain ⟨c0, c1, c2⟩ := B5.three; obtain ⟨f0, f1, f2⟩ := B5.free3)))
      refine bodyPost_ret (v := .agg #[.bool neg, .slice a1 b1 e1, .slice a2 b2 e2]) (by simp [results, Tryz.results108, go_sem, c0, c1, c2]) rfl ?_
      have z1 : w.heap.size + 1 ≤ w3.heap.size := by have := hb3.size; simp at this; omega
      have z2 : w.heap.size + 1 ≤ w4.heap.size := Nat.le_trans z1 hb4.size
      exact ⟨_, rfl, retR (q := ⟨neg, n / g, d / g⟩) (below_on hb5') (Nat.le_refl _) ⟨_, _, rfl, hq4b, hq5, hfq4.mono z1, hfq5.mono z2⟩⟩

end Go.Proofs.YtbnhgmikegdppaaGreat

/- Rows of integers; electionmake.Mod and Ints. -/
namespace Go.Proofs.Nums

theorem tmod_abs (x n : Int) (hn : 0 < n) : -n < x.tmod n ∧ x.tmod n < n := by
  have h : (x.tmod n).natAbs = x.natAbs % n.natAbs := Int.natAbs_tmod x n
  have h2 : x.natAbs % n.natAbs < n.natAbs := Nat.mod_lt _ (by omega)
  omega
theorem mod_plain (x n : Int) (hn : 0 < n) : (x.tmod n + n).tmod n = x % n := by
  have h := tmod_abs x n hn
  rw [Int.tmod_eq_emod_of_nonneg (by omega), Int.add_emod_right]
  have e : x.tmod n = x - n * x.tdiv n := by have := Int.mul_tdiv_add_tmod x n; omega
  rw [e, Int.sub_mul_emod_self_left]

end Go.Proofs.Nums
namespace Go.Proofs.Kit
open Go.RowKit

/-- append(s, x...), at a step of a region that draws; x a row that is read. -/
theorem step_append_read {P : Program} {t e : TypeId} {z : Value} {bytes : Nat} (E : ElemRow P t e z 1 bytes)
    {ops : Array Oper} {o : Oper} {a : Act} {K : Act → World → Prop} {Q : Exit → Act → World → Prop} {E0 : Prop} {w : World} (hgd : o.guard = none) {s x : Operand}
    (ho : o.op = .call { callee := .builtin .append, args := #[s, x], argTypes := #[t, t] })
    {base : Nat} {v : Value} {n : Nat} {xs : List Value} (hown : w.ownsRow base e 1 v n xs)
    (hs : a.eval s = v) {xv : Value} {cs : List Value} (hr : RowAt w xv cs) (hx : a.eval x = xv)
    (h1 : ∀ u ∈ cs, u.oneCell' = true) (hn : (n + cs.length) * bytes ≤ 140737488355328) (hn' : n + cs.length ≤ 9223372036854775807) (hbase : base ≤ w.heap.size)
    (h : ∀ v' w', w'.ownsRow base e 1 v' (n + cs.length) (xs ++ cs) → Below base w w' → K (a.put o.dst v') w') :
    if Region.wanted o (yielded ops a.tmps) = true then Oper.wp P o a w K Q else E0 := by
  have hw : Region.wanted o (yielded ops a.tmps) = true := by simp [Region.wanted, hgd]
  rw [if_pos hw]
  obtain ⟨i, hi, hz0, hz1, hz2⟩ := info_parts E.hi
  obtain ⟨p, cap, rfl, c1, c2, c3, c4⟩ := hr
  cases p with
  | none =>
    have hc := c3 rfl
    subst hc
    have hl : cs = [] := List.eq_nil_of_length_eq_zero (by omega)
    subst hl
    have hrun := run_append_owned_none (P := P) w base t o.type e i 1 E.ht hi v n xs hown
    unfold Oper.wp
    have hx' : a.eval x = .slice none 0 0 := hx
    simp [execOp, ho, resolve, invoke, builtin, hs, hx', hrun, Result.andThen]
    exact h v w (by simpa using hown) (Below.refl _ _)
  | some q =>
    refine wp_append_own w s x t ho base e i z 1 bytes E.ht hi hz0 hz1 hz2 E.hzs E.hsz v n xs hs hown q cs.length cap cs hx (by rw [Nat.mul_one]) (c4 q rfl) h1 (by unfold maxLen; omega) hn hbase fun v' w' h2 h3 _ => ?_
    exact h v' w' h2 ((Below.refl base w).grown h3 hbase fun k hk => (hown.lt k hk).1)

end Go.Proofs.Kit
namespace Go.Proofs.YtbnhgmikegdppaaGreat
open Go.RowKit Go.Proofs.Kit Go.Proofs.Nums

/-- A row of integers. -/
def IntsAt (w : World) (v : Value) (l : List Int) : Prop := RowAt w v (l.map (Value.int .i64))
theorem IntsAt.keep {w w' : World} {v : Value} {l : List Int} (h : IntsAt w v l) (hb : Below w.heap.size w w') : IntsAt w' v l := RowAt.keep h hb
theorem IntsAt.shape {w : World} {v : Value} {l : List Int} (h : IntsAt w v l) : ∃ p c, v = .slice p l.length c := by
  obtain ⟨p, cap, h1, _⟩ := h
  rw [List.length_map] at h1
  exact ⟨p, cap, h1⟩
theorem IntsAt.cellAt {w : World} {p : Option Addr} {n c : Nat} {l : List Int} (h : IntsAt w (.slice p n c) l) (j : Nat) (hj : j < l.length) :
    ∃ b off, p = some ⟨b, off, none⟩ ∧ l.length ≤ c ∧ c ≤ 9223372036854775807 ∧ w.cell? ⟨b, off + j, none⟩ = some (.int .i64 (l.getD j 0)) := by
  rcases RowAt.cases h with ⟨h1, _⟩ | ⟨_, b, off, k, hv, h2, h3, _, hc⟩
  · have := congrArg List.length h1
    rw [List.length_map] at this
    simp at this
    rw [this] at hj; simp at hj
  · simp only [Value.slice.injEq] at hv
    obtain ⟨rfl, _, rfl⟩ := hv
    rw [List.length_map] at h2
    refine ⟨b, off, rfl, h2, h3, hc j _ ?_⟩
    rw [List.getElem?_map, List.getElem?_eq_getElem hj, List.getD_eq_getElem?_getD, List.getElem?_eq_getElem hj]
    rfl

theorem Blk.off {b : Nat} {cs : Array Value} {w w' : World} (h : Blk b cs w) (hh : w'.heap[b]? = w.heap[b]?) (hs : w.heap.size ≤ w'.heap.size) : Blk b cs w' :=
  ⟨Nat.lt_of_lt_of_le h.1 hs, fun o => (World.cell?_of_block (a := ⟨b, o, none⟩) hh).trans (h.2.1 o), fun o => (World.frozen?_of_block (a := ⟨b, o, none⟩) hh).trans (h.2.2 o)⟩
theorem RatN.al {w : World} {v : Value} {q : Q} {L : Nat} (h : RatN w v q L) (o : Obj) : RatN (w.alloc o) v q L := h.keep ((Below.refl _ _).alloc (Nat.le_refl _) _)
theorem bal {w0 w : World} (h : Below w0.heap.size w0 w) (o : Obj) : Below w0.heap.size w0 (w.alloc o) := h.alloc h.size o

theorem w64 {n : Int} (h1 : -9223372036854775808 ≤ n) (h2 : n ≤ 9223372036854775807) : IntKind.i64.wrap n = n := by
  rw [IntKind.wrap_i64]; omega
theorem wu64 {n : Int} (h1 : 0 ≤ n) (h2 : n ≤ 18446744073709551615) : IntKind.u64.wrap n = n := by
  have e : IntKind.u64.wrap n = n % 18446744073709551616 := by simp [IntKind.wrap, IntKind.bits, IntKind.signed]
  rw [e]; omega

theorem RowAt.dropK {w : World} {b off cap n : Nat} {cs : List Value} (h : RowAt w (.slice (some ⟨b, off, none⟩) n cap) cs) (k : Nat) (hk : k ≤ cs.length) : RowAt w (.slice (some ⟨b, off + k, none⟩) (n - k) (cap - k)) (cs.drop k) := by
  obtain ⟨p, cap', e, h1, h2, h3, h4⟩ := h
  simp only [Value.slice.injEq] at e
  obtain ⟨rfl, rfl, rfl⟩ := e
  refine ⟨_, _, by rw [List.length_drop], by rw [List.length_drop]; omega, by omega, fun h => by simp at h, fun q hq i u hi => ?_⟩
  obtain rfl := Option.some.inj hq
  rw [List.getElem?_drop] at hi
  have := h4 _ rfl (k + i) u hi
  rw [Addr.add_lit] at this ⊢
  rw [Nat.add_assoc]
  exact this

theorem erI : ElemRow Tryz.prog 26 3 (.int .i64 0) 1 8 := ⟨Tryz.underlying26, by kernel_rfl, rfl, by decide⟩
theorem ints_one (l : List Int) : ∀ u ∈ l.map (Value.int .i64), u.oneCell' = true := fun u hu => by
  obtain ⟨z, _, rfl⟩ := List.mem_map.1 hu
  rfl

set_option maxHeartbeats 1000000 in
theorem mod_c (x n : Int) (hn : 1 ≤ n) (hn2 : n ≤ 1000000) (w : World) :
    Calls Tryz.prog 8 #[.int .i64 x, .int .i64 n] w fun e w' => e = .returned (.int .i64 (x % n)) ∧ w = w' := by
  have h := tmod_abs x n (by omega)
  have hp := mod_plain x n (by omega)
  obtain ⟨r, hr⟩ : ∃ r, x.tmod n = r := ⟨_, rfl⟩
  rw [hr] at h hp
  obtain ⟨q, hq⟩ : ∃ q, (r + n).tmod n = q := ⟨_, rfl⟩
  rw [hq] at hp
  rw [← hp]
  obtain ⟨h1, h2⟩ := h
  have z1 : ¬ n = 0 := by omega
  have z2 : (n == 0) = false := by rw [beq_eq_false_iff_ne]; omega
  have z3 : 0 ≤ r + n := by omega
  have z4 : r + n ≤ 2000000 := by omega
  clear hp
  go_enter Tryz.func8, Tryz.ntmps8
  go_wp2_with fail
  go_ret
  exact ⟨rfl, rfl⟩

end Go.Proofs.YtbnhgmikegdppaaGreat

namespace Go.Proofs.YtbnhgmikegdppaaGreat
open Go.RowKit Go.Proofs.Kit Go.Proofs.Nums
/-- Is the Ratio with these fields in normal form? -/
def validR (neg : Bool) (a b : List Nat) : Bool :=
  (neg == (Q.mk' neg (val a) (val b)).neg) && eqN a (limbs (Q.mk' neg (val a) (val b)).n) && eqN b (limbs (Q.mk' neg (val a) (val b)).d)

/-- v is a Ratio with these fields, limb by limb. -/
def RatL (w : World) (v : Value) (neg : Bool) (a b : List Nat) : Prop := ∃ vn vd, v = .agg #[.bool neg, vn, vd] ∧ NatAt w vn a ∧ NatAt w vd b
theorem RatL.keep {w w' : World} {v : Value} {neg : Bool} {a b : List Nat} (h : RatL w v neg a b) (hb : Below w.heap.size w w') : RatL w' v neg a b := by
  obtain ⟨vn, vd, h1, h2, h3⟩ := h; exact ⟨vn, vd, h1, h2.keep hb, h3.keep hb⟩
theorem RatL.at {w : World} {v : Value} {neg : Bool} {a b : List Nat} {L : Nat} (h : RatL w v neg a b) (ha : a.length ≤ L) (hb : b.length ≤ L) : RatAt w v ⟨neg, val a, val b⟩ L := by
  obtain ⟨vn, vd, h1, h2, h3⟩ := h; exact ⟨vn, vd, h1, Num.of h2 ha, Num.of h3 hb⟩

end Go.Proofs.YtbnhgmikegdppaaGreat

namespace Go.Proofs.YtbnhgmikegdppaaGreat
open Go.RowKit Go.Proofs.Kit Go.Proofs.Nums
set_option maxHeartbeats 4000000 in
theorem ropp_r {v : Value} {q : Q} {w : World} (h : RAt w v q) (hs : q.Sz 40000) :
    Calls Tryz.prog 107 #[v] w fun e w' => ∃ v', e = .returned v' ∧ RFr w' v' (Q.mk' (!q.neg) q.n q.d) w.heap.size ∧ Below w.heap.size w w' := by
  obtain ⟨p1, l1, k1, p2, l2, k2, rfl, hn, hd⟩ := h.shape
  obtain ⟨neg, n, d⟩ := q
  have NM : Hid (∀ o1 o2, Calls Tryz.prog 108 #[.bool (!neg), .slice p1 l1 k1, .slice p2 l2 k2] ((w.alloc o1).alloc o2) fun e w' => ∃ v, e = .returned v ∧ RFr w' v (Q.mk' (!neg) n d) ((w.alloc o1).alloc o2).heap.size ∧ Below ((w.alloc o1).alloc o2).heap.size ((w.alloc o1).alloc o2) w') := Lib.hid (fun o1 o2 => rnorm_r (BitAt.on hn (((Below.refl _ _).alloc (Nat.le_refl _) _))) (BitAt.on hd (((Below.refl _ _).alloc (Nat.le_refl _) _))) hs.1 hs.2)
  clear hn hd h hs
  go_enter Tryz.func107, Tryz.ntmps107
  go_wp2_with (go_at_call 108; ((with_reducible refine (NM.out _ _).mono ?_); rintro e w3 ⟨v3, rfl, hv3, hb3⟩; obtain ⟨a1, b1, e1, a2, b2, e2, rfl, g1, g2, g3, g4⟩ := hv3.shape; have B3 := (Blk.new _ _ _).keep hb3; obtain ⟨c0, c1, c2⟩ := B3.three; obtain ⟨f0, f1, f2⟩ := B3.free3; simp at c0 c1 c2 f0 f1 f2))
  refine bodyPost_ret (v := .agg #[.bool (Q.mk' (!neg) n d).neg, .slice a1 b1 e1, .slice a2 b2 e2]) (by simp [results, Tryz.results107, go_sem, c0, c1, c2]) rfl ?_
  refine ⟨_, rfl, retR (B := w.heap.size) ?_ (by omega) ⟨_, _, rfl, g1, g2, g3.mono (by simp), g4.mono (by simp)⟩⟩
  exact (((Below.refl _ _).alloc (Nat.le_refl _) _).alloc (by simp) _).trans (hb3.mono (by simp; omega))

/-- Are two Ratios equal field by field? -/
def eqR (na : Bool) (a b : List Nat) (nb : Bool) (c d : List Nat) : Bool := (na == nb) && eqN a c && eqN b d

set_option maxHeartbeats 4000000 in
theorem req_r {va vb : Value} {na nb : Bool} {a b c d : List Nat} {w : World} (ha : RatL w va na a b) (hb : RatL w vb nb c d) (h1 : a.length ≤ 1000000) (h2 : b.length ≤ 1000000) (h3 : c.length ≤ 1000000) (h4 : d.length ≤ 1000000) :
    Calls Tryz.prog 64 #[va, vb] w fun e w' => e = .returned (.bool (eqR na a b nb c d)) ∧ Below w.heap.size w w' := by
  obtain ⟨va1, va2, rfl, g1, g2⟩ := ha
  obtain ⟨vb1, vb2, rfl, g3, g4⟩ := hb
  obtain ⟨p1, k1, rfl⟩ := g1.shape
  obtain ⟨p2, k2, rfl⟩ := g2.shape
  obtain ⟨p3, k3, rfl⟩ := g3.shape
  obtain ⟨p4, k4, rfl⟩ := g4.shape
  unfold eqR
  have E1 : Hid (∀ w', Below w.heap.size w w' → Calls Tryz.prog 82 #[.slice p1 a.length k1, .slice p3 c.length k3] w' fun e w'' => e = .returned (.bool (eqN a c)) ∧ Below w'.heap.size w' w'') := Lib.hid (fun w' h => req_any _ _ _ _ w' (g1.keep h) (g3.keep h) h1 h3)
  have E2 : Hid (∀ w', Below w.heap.size w w' → Calls Tryz.prog 82 #[.slice p2 b.length k2, .slice p4 d.length k4] w' fun e w'' => e = .returned (.bool (eqN b d)) ∧ Below w'.heap.size w' w'') := Lib.hid (fun w' h => req_any _ _ _ _ w' (g2.keep h) (g4.keep h) h2 h4)
  obtain ⟨t1, ht1⟩ : ∃ t1, eqN a c = t1 := ⟨_, rfl⟩
  obtain ⟨t2, ht2⟩ : ∃ t2, eqN b d = t2 := ⟨_, rfl⟩
  rw [ht1] at E1 ⊢
  rw [ht2] at E2 ⊢
  clear g1 g2 g3 g4 ht1 ht2 h1 h2 h3 h4
  cases na <;> cases nb <;> cases t1
  all_goals
    go_enter Tryz.func64, Tryz.ntmps64
    go_wp2_with (first
      | (go_at_call 82; ((with_reducible refine (E1.out _ (((Below.refl _ _).alloc (Nat.le_refl _) _).alloc (by simp) _)).mono ?_); rintro e w2 ⟨rfl, hb2⟩; have B1 := (Blk.new _ _ _).keep hb2; have B0 := ((Blk.new w _ _).alloc _).keep hb2; obtain ⟨_, _, q2⟩ := B0.three; obtain ⟨_, _, r2⟩ := B1.three; simp at r2; have hb2' : Below w.heap.size w w2 := (((Below.refl _ _).alloc (Nat.le_refl _) _).alloc (by simp) _).trans (hb2.mono (by simp; omega))))
      | (go_at_call 82; ((with_reducible refine (E2.out _ hb2').mono ?_); rintro e w3 ⟨rfl, hb3⟩; have hb3' := bel2' hb2' hb3)))
    go_ret
    first
      | exact ⟨rfl, hb3'⟩
      | exact ⟨rfl, hb2'⟩
      | exact ⟨rfl, ((Below.refl _ _).alloc (Nat.le_refl _) _).alloc (by simp) _⟩

end Go.Proofs.YtbnhgmikegdppaaGreat

namespace Go.Proofs.YtbnhgmikegdppaaGreat
open Go.RowKit Go.Proofs.Kit Go.Proofs.Nums

theorem from_n {v : Value} {n L : Nat} {w : World} (h : Num w v n L) (hL : L ≤ 1000) :
    Calls Tryz.prog 109 #[v] w fun e w' => ∃ v', e = .returned v' ∧ BitAt w' v' (bitsN n) ∧ Below w.heap.size w w' := by
  obtain ⟨a, h1, rfl, h3⟩ := h
  exact from_any v a w h1 (by omega)

end Go.Proofs.YtbnhgmikegdppaaGreat

/- Fractions in new memory: Gcd, Limbs, Fraction of the reference; To of the reference. -/
namespace Go.Proofs.YtbnhgmikegdppaaGreat
open Go.RowKit Go.Proofs.Kit Go.Proofs.Nums

/-- The limbs of a Ratio lie in no block below B. -/
def FreshR (B : Nat) : Value → Prop
  | .agg #[_, vn, vd] => Fresh B vn ∧ Fresh B vd
  | _ => False
/-- A call that hands back a Ratio in normal form, in new memory. -/
def GivesF (q : Q) (L : Nat) (w : World) (e : Ending) (w' : World) : Prop := ∃ p l k p' l' k', e = .returned (.agg #[.bool q.neg, .slice p l k, .slice p' l' k']) ∧ RatN w' (.agg #[.bool q.neg, .slice p l k, .slice p' l' k']) q L ∧ Fresh w.heap.size (.slice p l k) ∧ Fresh w.heap.size (.slice p' l' k') ∧ Below w.heap.size w w'

set_option maxHeartbeats 2000000 in
theorem gcd_c (a b : Nat) (ha : a ≤ 1000000) (hb : b ≤ 1000000) (w : World) :
    Calls Tryz.prog 78 #[.int .i64 a, .int .i64 b] w fun e w' => e = .returned (.int .i64 (Nat.gcd a b : Nat)) ∧ Below w.heap.size w w' := by
  go_enter Tryz.func78, Tryz.ntmps78
  go_wp2_with fail
  go_loopw [0, 1] (fun av bv wr => ∃ x y : Nat, x ≤ 1000000 ∧ y ≤ 1000000 ∧ av = .int .i64 x ∧ bv = .int .i64 y ∧ Below w.heap.size w wr ∧ Hid (Nat.gcd x y = Nat.gcd a b)) (fun _ bv _ => (intOf bv).toNat)
  case atStart => exact ⟨a, b, ha, hb, rfl, rfl, Below.refl _ _, Lib.hid rfl⟩
  case round =>
    obtain ⟨x, y, hx, hy, rfl, rfl, hbel, hP⟩ := hrel
    by_cases h0 : 0 < y
    · have hlt : x % y < y := Nat.mod_lt _ h0
      have hm : (x : Int).tmod (y : Int) = ((x % y : Nat) : Int) := by
        rw [Int.tmod_eq_emod_of_nonneg (by omega)]
        exact (Int.natCast_emod x y).symm
      obtain ⟨r, hr⟩ : ∃ r, x % y = r := ⟨_, rfl⟩
      rw [hr] at hm hlt
      have HG : Hid (Nat.gcd y r = Nat.gcd a b) := Lib.hid (by rw [← hr, ← hP.out, Nat.gcd_comm x y, Nat.gcd_rec y x, Nat.gcd_comm])
      have z1 : ¬ (y : Int) = 0 := by omega
      have z2 : ((y : Int) == 0) = false := by rw [beq_eq_false_iff_ne]; omega
      have z3 : ¬ y = 0 := by omega
      clear hr
      go_wp2_with fail
      go_region
      all_goals go_wp2_with fail
      all_goals go_roundw
      case rel => exact ⟨y, r, hy, by omega, rfl, rfl, hbel.drew, HG⟩
      case measure => simp [intOf] <;> omega
    · obtain rfl : y = 0 := by omega
      have e : Hid (x = Nat.gcd a b) := Lib.hid (by rw [← hP.out, Nat.gcd_zero_right])
      go_wp2_with fail
      go_ret
      exact ⟨by rw [← e.out]; rfl, hbel⟩

set_option maxHeartbeats 2000000 in
theorem limbs_f (n : Nat) (hn : n < 4294967296) (w : World) :
    Calls Tryz.prog 79 #[.int .i64 n] w fun e w' => ∃ p l k, e = .returned (.slice p l k) ∧ Nrm w' (.slice p l k) n 2 ∧ Fresh w.heap.size (.slice p l k) ∧ Below w.heap.size w w' := by
  go_enter Tryz.func79, Tryz.ntmps79
  go_wp2_with fail
  go_loopw [3, 4] (fun ov xv wr => ∃ m k : Nat, ∃ o : List Nat, m ≤ n ∧ k ≤ 1 ∧ (m ≠ 0 → k = 0) ∧ xv = .int .u64 m ∧ wr.ownsRow w.heap.size 119 1 ov k (o.map limbV) ∧ Below w.heap.size w wr ∧ Hid (limbs n = o ++ limbs m)) (fun _ xv _ => (intOf xv).toNat)
  case atStart => exact ⟨n, 0, [], Nat.le_refl _, by omega, fun _ => rfl, rfl, World.ownsRow_nil _ _ _ _, Below.refl _ _, Lib.hid rfl⟩
  case round =>
    obtain ⟨m, k, o, hm, hk, hk0, rfl, hown, hbel, hP⟩ := hrel
    by_cases h0 : 0 < m
    · have hkk := hk0 (by omega)
      have hml : m < 4294967296 := by omega
      have hm2 : m % 4294967296 = m := Nat.mod_eq_of_lt hml
      have hm3 : m / 4294967296 = 0 := Nat.div_eq_of_lt hml
      have HS : Hid (limbs n = (o ++ [m]) ++ limbs 0) := Lib.hid (by rw [hP.out, limbs_pos m (by omega), hm2, hm3, List.append_assoc]; rfl)
      clear hm2 hm3
      go_wp2_with (at_builtin; go_must (refine append_one er49 rfl rfl hown rfl rfl rfl (by simp [Value.oneCell']) (by omega) (by omega) hbel.size ?_); intro v' w1 hown1 _ hb1 hne1)
      go_roundw
      case rel =>
        refine ⟨0, k + 1, o ++ [m], by omega, by omega, fun h => absurd rfl h, by go_num, ?_, hbel.trans hb1, HS⟩
        rw [List.map_append]
        exact hown1
      case measure => simp [intOf] <;> omega
    · obtain rfl : m = 0 := by omega
      have hE : Hid (o = limbs n) := Lib.hid (by rw [hP.out, limbs_zero, List.append_nil])
      have HR := Lib.hid (RowAt.owned hown)
      have HF := Lib.hid (Fresh.owned hown)
      clear hown
      go_wp2_with fail
      go_ret
      have g : NatAt _ _ (limbs n) := ⟨by rw [← hE.out]; exact HR.out, limbs_lim n⟩
      obtain ⟨p, k2, e2⟩ := g.shape
      subst e2
      exact ⟨_, _, _, rfl, ⟨g, Nat.lt_trans hn (by decide)⟩, HF.out, hbel⟩

set_option maxRecDepth 100000 in
set_option maxHeartbeats 4000000 in
theorem fraction_f (a b : Nat) (hb : 0 < b) (ha2 : a ≤ 1000000) (hb2 : b ≤ 1000000) (w : World) :
    Calls Tryz.prog 58 #[.int .i64 a, .int .i64 b] w (GivesF (Q.mk' false a b) 2 w) := by
  have hq : Q.mk' false a b = ⟨false, a / Nat.gcd a b, b / Nat.gcd a b⟩ := by
    rcases Nat.eq_zero_or_pos a with h0 | ha
    · subst h0
      rw [Q.mk'_zero (.inl rfl), Nat.gcd_zero_left, Nat.zero_div, Nat.div_self hb]
    · exact Q.mk'_pos ha hb
  have hg := Nat.gcd_pos_of_pos_right a hb
  have hgle : Nat.gcd a b ≤ 1000000 := Nat.le_trans (Nat.le_of_dvd hb (Nat.gcd_dvd_right a b)) hb2
  have GC : Hid (∀ w, Calls Tryz.prog 78 #[.int .i64 a, .int .i64 b] w fun e w' => e = .returned (.int .i64 (Nat.gcd a b : Nat)) ∧ Below w.heap.size w w') := Lib.hid (fun w => gcd_c a b ha2 hb2 w)
  rw [hq]
  obtain ⟨g, hgg⟩ : ∃ g, Nat.gcd a b = g := ⟨_, rfl⟩
  rw [hgg] at GC hg hgle ⊢
  have d1 : (a : Int).tdiv (g : Int) = ((a / g : Nat) : Int) := by
    rw [Int.tdiv_eq_ediv_of_nonneg (by omega)]; exact (Int.natCast_ediv a g).symm
  have d2 : (b : Int).tdiv (g : Int) = ((b / g : Nat) : Int) := by
    rw [Int.tdiv_eq_ediv_of_nonneg (by omega)]; exact (Int.natCast_ediv b g).symm
  have k1 : a / g ≤ 1000000 := Nat.le_trans (Nat.div_le_self a g) ha2
  have k2 : b / g ≤ 1000000 := Nat.le_trans (Nat.div_le_self b g) hb2
  obtain ⟨x, hx⟩ : ∃ x, a / g = x := ⟨_, rfl⟩
  obtain ⟨y, hy⟩ : ∃ y, b / g = y := ⟨_, rfl⟩
  rw [hx] at d1 k1 ⊢
  rw [hy] at d2 k2 ⊢
  have LX := Lib.hid (fun w => limbs_f x (by omega) w)
  have LY := Lib.hid (fun w => limbs_f y (by omega) w)
  have z1 : ¬ (g : Int) = 0 := by omega
  have z2 : ((g : Int) == 0) = false := by rw [beq_eq_false_iff_ne]; omega
  have z3 : ¬ g = 0 := by omega
  have u1 : IntKind.i64.wrap (x : Int) = (x : Int) := w64 (by omega) (by omega)
  have u2 : IntKind.i64.wrap (y : Int) = (y : Int) := w64 (by omega) (by omega)
  clear hq hgg hx hy hg
  have B0 := Lib.hid (Blk.new w #[.bool false, .slice none 0 0, .slice none 0 0] 51)
  have hBd : Below w.heap.size w (w.alloc (.cells #[.bool false, .slice none 0 0, .slice none 0 0] 51)) := (Below.refl _ _).alloc (Nat.le_refl _) _
  go_enter Tryz.func58, Tryz.ntmps58
  go_wp2_with (go_at_call 78; ((with_reducible refine (GC.out _).mono ?_); rintro e w1 ⟨rfl, hb1⟩; have hB1 := bel2' hBd hb1; have B1 := Lib.hid (B0.out.keep hb1)))
  go_region_held3 (fun _ => True) (first | exact trivial)
    (first
      | (go_at_call 79; ((with_reducible refine (LX.out _).mono ?_); rintro e w2 ⟨p2, l2, c2, rfl, hv2, hf2, hb2⟩; have hB2 := bel2' hB1.drew hb2; have B2 := Lib.hid (B1.out.drew.keep hb2)))
      | (go_at_call 79; ((with_reducible refine (LY.out _).mono ?_); rintro e w3 ⟨p3, l3, c3, rfl, hv3, hf3, hb3⟩; have hB3 := bel2' hB2 hb3; have B3 := Lib.hid (B2.out.keep hb3); have hv23 := hv2.keep hb3; obtain ⟨m0, m1, m2⟩ := B3.out.three; obtain ⟨t0, t1, t2⟩ := B3.out.free3)))
  all_goals
    go_wp2_with fail
    refine bodyPost_ret (v := .agg #[.bool false, .slice p2 l2 c2, .slice p3 l3 c3]) (by simp [results, Tryz.results58, go_sem, m0, m1, m2]) rfl ?_
    have gg := retN (q := ⟨false, x, y⟩) hB3 (Nat.le_refl _) B3.out (by simp) (by simp) (by simp) hv23 hv3
    exact ⟨_, _, _, _, _, _, rfl, gg.1, hf2.mono (Nat.le_trans (by simp) hb1.size), hf3.mono (Nat.le_trans (by simp) hB2.size), gg.2⟩

end Go.Proofs.YtbnhgmikegdppaaGreat

/- Searches in rows of integers: Has and Place of the reference, slices.Index. -/
namespace Go.Proofs.Nums

/-- Is x in l? -/
def hasB (l : List Int) (x : Int) : Bool := decide (x ∈ l)
theorem hasB_true {l : List Int} {x : Int} : hasB l x = true ↔ x ∈ l := by unfold hasB; exact decide_eq_true_iff
theorem hasB_false {l : List Int} {x : Int} : hasB l x = false ↔ x ∉ l := by unfold hasB; exact decide_eq_false_iff_not
theorem take_snoc_i {l : List Int} {k : Nat} (h : k < l.length) : l.take (k + 1) = l.take k ++ [l.getD k 0] := by
  rw [List.take_succ_eq_append_getElem h, List.getD_eq_getElem?_getD, List.getElem?_eq_getElem h]; rfl
theorem not_mem_snoc {l : List Int} {k : Nat} {x : Int} (h : k < l.length) (h1 : x ∉ l.take k) (h2 : l.getD k 0 ≠ x) : x ∉ l.take (k + 1) := by
  rw [take_snoc_i h, List.mem_append, List.mem_singleton]
  rintro (g | g)
  · exact h1 g
  · exact h2 g.symm
theorem mem_getD {l : List Int} {k : Nat} {x : Int} (h : k < l.length) (h2 : l.getD k 0 = x) : x ∈ l := by
  rw [← h2, List.getD_eq_getElem?_getD, List.getElem?_eq_getElem h]
  exact List.getElem_mem h
theorem not_mem_all {l : List Int} {k : Nat} {x : Int} (h : l.length ≤ k) (h1 : x ∉ l.take k) : x ∉ l := by
  rwa [List.take_of_length_le h] at h1

/-- The first place of x in l, or the length. -/
def placeN : List Int → Int → Nat
  | [], _ => 0
  | y :: l, x => if y = x then 0 else placeN l x + 1
theorem placeN_le (l : List Int) (x : Int) : placeN l x ≤ l.length := by
  induction l with
  | nil => exact Nat.le_refl _
  | cons y l ih => unfold placeN; split <;> simp <;> omega
theorem placeN_at {l : List Int} {x : Int} {k : Nat} (h : k < l.length) (h1 : x ∉ l.take k) (h2 : l.getD k 0 = x) : placeN l x = k := by
  induction l generalizing k with
  | nil => simp at h
  | cons y l ih =>
    unfold placeN
    cases k with
    | zero => rw [if_pos (by simpa using h2)]
    | succ k =>
      rw [List.take_succ_cons, List.mem_cons, not_or] at h1
      rw [if_neg (fun e => h1.1 e.symm), ih (by simpa using h) h1.2 (by simpa using h2)]
theorem placeN_none {l : List Int} {x : Int} (h : x ∉ l) : placeN l x = l.length := by
  induction l with
  | nil => rfl
  | cons y l ih =>
    rw [List.mem_cons, not_or] at h
    unfold placeN
    rw [if_neg (fun e => h.1 e.symm), ih h.2]; rfl
/-- slices.Index. -/
def indexZ (l : List Int) (x : Int) : Int := if x ∈ l then (placeN l x : Int) else -1

end Go.Proofs.Nums
namespace Go.Proofs.YtbnhgmikegdppaaGreat
open Go.RowKit Go.Proofs.Kit Go.Proofs.Nums

theorem ret_bb {a b : Bool} (h : a = b) : Ending.returned (.bool a) = .returned (.bool b) := by rw [h]
theorem ret_ii {a b : Int} (h : a = b) : Ending.returned (.int .i64 a) = .returned (.int .i64 b) := by rw [h]

set_option maxHeartbeats 1000000 in
theorem has_c {v : Value} {l : List Int} {w : World} (hv : IntsAt w v l) (x : Int) :
    Calls Tryz.prog 65 #[v, .int .i64 x] w fun e w' => e = .returned (.bool (hasB l x)) ∧ w = w' := by
  have H := Lib.hid hv
  have hlm : l.length ≤ 9223372036854775807 := by
    obtain ⟨p, c, _, h1, h2, _⟩ := hv
    rw [List.length_map] at h1
    omega
  obtain ⟨p, c, rfl⟩ := hv.shape
  obtain ⟨n, hn⟩ : ∃ n, l.length = n := ⟨_, rfl⟩
  have HN := Lib.hid hn
  rw [hn] at hlm H ⊢
  clear hv hn
  go_enter Tryz.func65, Tryz.ntmps65
  go_wp2_with fail
  go_loop [5] (fun i => ∃ k : Nat, k ≤ n ∧ i = .int .i64 k ∧ Hid (x ∉ l.take k)) (fun i => n - (intOf i).toNat)
  case atStart => exact ⟨0, by omega, rfl, Lib.hid (by simp)⟩
  case round =>
    obtain ⟨k, hk, rfl, hP⟩ := hrel
    by_cases hlt : k < n
    · obtain ⟨b, off, hp0, hc1, hc2, hcell⟩ := H.out.cellAt k (by rw [HN.out]; exact hlt)
      subst hp0
      have hltz : (k : Int) < (n : Int) := by omega
      obtain ⟨o, ho⟩ : ∃ o, l.getD k 0 = o := ⟨_, rfl⟩
      have HO := Lib.hid ho
      rw [ho] at hcell
      clear ho
      by_cases he : o = x
      · have HT : Hid (hasB l x = true) := Lib.hid (hasB_true.2 (mem_getD (by rw [HN.out]; exact hlt) (HO.out.trans he)))
        have e1 : (o == x) = true := by rw [beq_iff_eq]; exact he
        clear he
        go_wp2_with fail
        go_ret
        exact ⟨ret_bb HT.out.symm, rfl⟩
      · have HS : Hid (x ∉ l.take (k + 1)) := Lib.hid (not_mem_snoc (by rw [HN.out]; exact hlt) hP.out (by rw [HO.out]; exact he))
        have e1 : (o == x) = false := by rw [beq_eq_false_iff_ne]; exact he
        go_wp2_with fail
        go_round
        case rel => exact ⟨k + 1, by omega, by go_num, HS⟩
        case measure => simp [intOf] <;> omega
    · have hltz : ¬ (k : Int) < (n : Int) := by omega
      have HT : Hid (hasB l x = false) := Lib.hid (hasB_false.2 (not_mem_all (by rw [HN.out]; omega) hP.out))
      go_wp2_with fail
      go_ret
      exact ⟨ret_bb HT.out.symm, rfl⟩

set_option maxHeartbeats 1000000 in
theorem place_c {v : Value} {l : List Int} {w : World} (hv : IntsAt w v l) (x : Int) :
    Calls Tryz.prog 62 #[v, .int .i64 x] w fun e w' => e = .returned (.int .i64 (placeN l x : Nat)) ∧ w = w' := by
  have H := Lib.hid hv
  have hlm : l.length ≤ 9223372036854775807 := by
    obtain ⟨p, c, _, h1, h2, _⟩ := hv
    rw [List.length_map] at h1
    omega
  obtain ⟨p, c, rfl⟩ := hv.shape
  obtain ⟨n, hn⟩ : ∃ n, l.length = n := ⟨_, rfl⟩
  have HN := Lib.hid hn
  rw [hn] at hlm H ⊢
  clear hv hn
  go_enter Tryz.func62, Tryz.ntmps62
  go_wp2_with fail
  go_loop [5] (fun i => ∃ k : Nat, k ≤ n ∧ i = .int .i64 k ∧ Hid (x ∉ l.take k)) (fun i => n - (intOf i).toNat)
  case atStart => exact ⟨0, by omega, rfl, Lib.hid (by simp)⟩
  case round =>
    obtain ⟨k, hk, rfl, hP⟩ := hrel
    by_cases hlt : k < n
    · obtain ⟨b, off, hp0, hc1, hc2, hcell⟩ := H.out.cellAt k (by rw [HN.out]; exact hlt)
      subst hp0
      have hltz : (k : Int) < (n : Int) := by omega
      obtain ⟨o, ho⟩ : ∃ o, l.getD k 0 = o := ⟨_, rfl⟩
      have HO := Lib.hid ho
      rw [ho] at hcell
      clear ho
      by_cases he : o = x
      · have HT : Hid (placeN l x = k) := Lib.hid (placeN_at (by rw [HN.out]; exact hlt) hP.out (HO.out.trans he))
        have e1 : (o == x) = true := by rw [beq_iff_eq]; exact he
        clear he
        go_wp2_with fail
        go_ret
        exact ⟨ret_ii (by rw [HT.out]), rfl⟩
      · have HS : Hid (x ∉ l.take (k + 1)) := Lib.hid (not_mem_snoc (by rw [HN.out]; exact hlt) hP.out (by rw [HO.out]; exact he))
        have e1 : (o == x) = false := by rw [beq_eq_false_iff_ne]; exact he
        go_wp2_with fail
        go_round
        case rel => exact ⟨k + 1, by omega, by go_num, HS⟩
        case measure => simp [intOf] <;> omega
    · have hltz : ¬ (k : Int) < (n : Int) := by omega
      have HT : Hid (placeN l x = n) := Lib.hid (by rw [← HN.out]; exact placeN_none (not_mem_all (by rw [HN.out]; omega) hP.out))
      go_wp2_with fail
      go_ret
      exact ⟨ret_ii (by rw [HT.out]), rfl⟩

set_option maxHeartbeats 1000000 in
theorem index_c {v : Value} {l : List Int} {w : World} (hv : IntsAt w v l) (x : Int) :
    Calls Tryz.prog 75 #[v, .int .i64 x] w fun e w' => e = .returned (.int .i64 (indexZ l x)) ∧ w = w' := by
  have H := Lib.hid hv
  have hlm : l.length ≤ 9223372036854775807 := by
    obtain ⟨p, c, _, h1, h2, _⟩ := hv
    rw [List.length_map] at h1
    omega
  obtain ⟨p, c, rfl⟩ := hv.shape
  obtain ⟨n, hn⟩ : ∃ n, l.length = n := ⟨_, rfl⟩
  have HN := Lib.hid hn
  rw [hn] at hlm H ⊢
  clear hv hn
  go_enter Tryz.func75, Tryz.ntmps75
  go_wp2_with fail
  go_loop [8] (fun i => ∃ k : Nat, k ≤ n ∧ i = .int .i64 k ∧ Hid (x ∉ l.take k)) (fun i => n - (intOf i).toNat)
  case atStart => exact ⟨0, by omega, rfl, Lib.hid (by simp)⟩
  case round =>
    obtain ⟨k, hk, rfl, hP⟩ := hrel
    by_cases hlt : k < n
    · obtain ⟨b, off, hp0, hc1, hc2, hcell⟩ := H.out.cellAt k (by rw [HN.out]; exact hlt)
      subst hp0
      have hltz : (k : Int) < (n : Int) := by omega
      obtain ⟨o, ho⟩ : ∃ o, l.getD k 0 = o := ⟨_, rfl⟩
      have HO := Lib.hid ho
      rw [ho] at hcell
      clear ho
      by_cases he : o = x
      · have HT : Hid (indexZ l x = (k : Int)) := Lib.hid (by unfold indexZ; rw [if_pos (mem_getD (by rw [HN.out]; exact hlt) (HO.out.trans he)), placeN_at (by rw [HN.out]; exact hlt) hP.out (HO.out.trans he)])
        have e1 : (x == o) = true := by rw [beq_iff_eq]; exact he.symm
        clear he
        go_wp2_with fail
        go_ret
        exact ⟨ret_ii HT.out.symm, rfl⟩
      · have HS : Hid (x ∉ l.take (k + 1)) := Lib.hid (not_mem_snoc (by rw [HN.out]; exact hlt) hP.out (by rw [HO.out]; exact he))
        have e1 : (x == o) = false := by rw [beq_eq_false_iff_ne]; exact fun e => he e.symm
        go_wp2_with fail
        go_round
        case rel => exact ⟨k + 1, by omega, by go_num, HS⟩
        case measure => simp [intOf] <;> omega
    · have hltz : ¬ (k : Int) < (n : Int) := by omega
      have HT : Hid (indexZ l x = -1) := Lib.hid (by unfold indexZ; rw [if_neg (not_mem_all (by rw [HN.out]; omega) hP.out)])
      go_wp2_with fail
      go_ret
      exact ⟨ret_ii HT.out.symm, rfl⟩

end Go.Proofs.YtbnhgmikegdppaaGreat

/- Rows of short Ratios: reading one, comparing two. -/
namespace Go.Proofs.Nums

/-- A Ratio in normal form that is not negative, with at most one limb in each part. -/
def ShQ (q : Q) : Prop := q.Nf ∧ q.neg = false ∧ q.n < 4294967296 ∧ q.d < 4294967296
theorem ShQ.zero : ShQ (Q.of 0) := ⟨Q.mk'_nf _ _ _, rfl, by decide, by decide⟩

end Go.Proofs.Nums
namespace Go.Proofs.YtbnhgmikegdppaaGreat
open Go.RowKit Go.Proofs.Kit Go.Proofs.Nums

/-- The three cells of a short Ratio. -/
def ratR (w : World) (c : List Value) (q : Q) : Prop := ∃ p l k p' l' k', c = [.bool false, .slice p l k, .slice p' l' k'] ∧ RatN w (.agg #[.bool false, .slice p l k, .slice p' l' k']) q 2 ∧ ShQ q
theorem ratR.keep {w w' : World} {c : List Value} {q : Q} (h : ratR w c q) (hb : Below w.heap.size w w') : ratR w' c q := by
  obtain ⟨p, l, k, p', l', k', h1, h2, h3⟩ := h
  exact ⟨p, l, k, p', l', k', h1, h2.keep hb, h3⟩
/-- A row of short Ratios. -/
def RatsAt (w : World) (v : Value) (l : List Q) : Prop := SliceOf ratR 3 w v l
theorem RatsAt.keep {w w' : World} {v : Value} {l : List Q} (h : RatsAt w v l) (hb : Below w.heap.size w w') : RatsAt w' v l := SliceOf.keep h hb fun _ _ g => g.keep hb
theorem RatsAt.cellsAt {w : World} {p : Option Addr} {n c : Nat} {l : List Q} (h : RatsAt w (.slice p n c) l) {k : Nat} (hk : k < l.length) {q : Q} (hq : l.getD k (Q.of 0) = q) :
    ∃ b off p1 l1 k1 p2 l2 k2, p = some ⟨b, off, none⟩ ∧ l.length ≤ c ∧ c ≤ 9223372036854775807 ∧ RatN w (.agg #[.bool false, .slice p1 l1 k1, .slice p2 l2 k2]) q 2 ∧ ShQ q ∧
      w.cell? ⟨b, off + k * 3, none⟩ = some (.bool false) ∧ w.cell? ⟨b, off + k * 3 + 1, none⟩ = some (.slice p1 l1 k1) ∧ w.cell? ⟨b, off + k * 3 + 2, none⟩ = some (.slice p2 l2 k2) := by
  obtain ⟨b, off, cap, cs, hv, h1, h2, h3, h4, h5⟩ := SliceOf.at_ (by decide) h hk
  simp only [Value.slice.injEq] at hv
  obtain ⟨rfl, _, rfl⟩ := hv
  have e : l[k] = q := by rw [← hq, List.getD_eq_getElem?_getD, List.getElem?_eq_getElem hk]; rfl
  rw [e] at h4
  obtain ⟨p1, l1, k1, p2, l2, k2, rfl, g1, g2⟩ := h4
  exact ⟨b, off, p1, l1, k1, p2, l2, k2, rfl, h1, h2, g1, g2, h5 0 _ rfl, h5 1 _ rfl, h5 2 _ rfl⟩
theorem RatsAt.shp {w : World} {v : Value} {l : List Q} (h : RatsAt w v l) : ∃ p c, v = .slice p l.length c := by
  obtain ⟨p, c, h1, _⟩ := SliceOf.shape h
  exact ⟨p, c, h1⟩
/-- What is returned: a short Ratio. -/
def GivesS (q : Q) (w : World) (e : Ending) (w' : World) : Prop := ∃ p l k p' l' k', e = .returned (.agg #[.bool false, .slice p l k, .slice p' l' k']) ∧ RatN w' (.agg #[.bool false, .slice p l k, .slice p' l' k']) q 2 ∧ ShQ q ∧ Below w.heap.size w w'

set_option maxHeartbeats 2000000 in
theorem votesOf_c {v : Value} {l : List Q} {w : World} (hv : RatsAt w v l) (c : Nat) (_hc : c < 1000) :
    Calls Tryz.prog 90 #[v, .int .i64 c] w (GivesS (l.getD c (Q.of 0)) w) := by
  have hlm := SliceOf.len hv
  obtain ⟨p, cp, rfl⟩ := hv.shp
  have H := Lib.hid hv
  obtain ⟨n, hn⟩ : ∃ n, l.length = n := ⟨_, rfl⟩
  have HN := Lib.hid hn
  rw [hn] at H hlm ⊢
  clear hv hn
  by_cases hlt : c < n
  · obtain ⟨q, hq⟩ : ∃ q, l.getD c (Q.of 0) = q := ⟨_, rfl⟩
    rw [hq]
    obtain ⟨b, off, p1, l1, k1, p2, l2, k2, rfl, g1, g2, g3, g4, c0, c1, c2⟩ := H.out.cellsAt (by rw [HN.out]; exact hlt) hq
    have G := Lib.hid (And.intro g3 g4)
    have d0 := cell_alloc_old (o := .cells #[.bool false, .slice none 0 0, .slice none 0 0] 51) c0
    have d1 := cell_alloc_old (o := .cells #[.bool false, .slice none 0 0, .slice none 0 0] 51) c1
    have d2 := cell_alloc_old (o := .cells #[.bool false, .slice none 0 0, .slice none 0 0] 51) c2
    have hz : (c : Int) < (n : Int) := by omega
    clear H hq g3 g4 g1 c0 c1 c2
    go_enter Tryz.func90, Tryz.ntmps90
    go_wp2_with fail
    refine bodyPost_ret (v := .agg #[.bool false, .slice p1 l1 k1, .slice p2 l2 k2]) (by simp [results, Tryz.results90, go_sem]) rfl ?_
    have hb : Below w.heap.size w (w.alloc (.cells #[.bool false, .slice p1 l1 k1, .slice p2 l2 k2] 51)) := (Below.refl _ _).alloc (Nat.le_refl _) _
    exact ⟨_, _, _, _, _, _, rfl, G.out.1.keep hb, G.out.2, hb⟩
  · have hz : ¬ (c : Int) < (n : Int) := by omega
    have he : l.getD c (Q.of 0) = Q.of 0 := by rw [List.getD_eq_getElem?_getD, List.getElem?_eq_none (by rw [HN.out]; omega)]; rfl
    rw [he]
    have OF : Hid (∀ w, Calls Tryz.prog 52 #[.int .i64 0] w fun e w' => ∃ p l k p' l' k', e = .returned (.agg #[.bool false, .slice p l k, .slice p' l' k']) ∧ RatN w' (.agg #[.bool false, .slice p l k, .slice p' l' k']) (Q.of 0) 2 ∧ Below w.heap.size w w') := Lib.hid (fun w => (of_r (z := 0) (L := 2) (by omega) (by omega) (by omega) (by omega)).mono (by
      rintro e w' ⟨v, rfl, h1, h4⟩
      have h2 := h1
      obtain ⟨p, l, k, p', l', k', rfl, _, _⟩ := h1.shape
      exact ⟨p, l, k, p', l', k', rfl, h2, h4⟩))
    have B0 := Lib.hid (Blk.new w #[.bool false, .slice none 0 0, .slice none 0 0] 51)
    have hBd : Below w.heap.size w (w.alloc (.cells #[.bool false, .slice none 0 0, .slice none 0 0] 51)) := (Below.refl _ _).alloc (Nat.le_refl _) _
    clear H he
    go_enter Tryz.func90, Tryz.ntmps90
    go_wp2_with (go_at_call 52; ((with_reducible refine (OF.out _).mono ?_); rintro e w1 ⟨p1, l1, k1, p2, l2, k2, rfl, hv1, hb1⟩; have hB1 := bel2' hBd hb1; have B1 := Lib.hid (B0.out.keep hb1); obtain ⟨m0, m1, m2⟩ := B1.out.three; obtain ⟨f0, f1, f2⟩ := B1.out.free3))
    refine bodyPost_ret (v := .agg #[.bool false, .slice p1 l1 k1, .slice p2 l2 k2]) (by simp [results, Tryz.results90, go_sem, m0, m1, m2]) rfl ?_
    obtain ⟨y1, y2, ev, g1, g2⟩ := hv1
    simp only [Value.agg.injEq, Array.mk.injEq, List.cons.injEq, and_true] at ev
    obtain ⟨-, rfl, rfl⟩ := ev
    have gg := retN (q := Q.of 0) hB1 (Nat.le_refl _) B1.out (by simp) (by simp) (by simp) g1 g2
    exact ⟨_, _, _, _, _, _, rfl, gg.1, ShQ.zero, gg.2⟩

set_option maxHeartbeats 2000000 in
theorem whole_f (n : Nat) (hn : n ≤ 1000000) (w : World) :
    Calls Tryz.prog 36 #[.int .i64 n] w (GivesF (Q.mk' false n 1) 2 w) := by
  have FR : Hid (∀ w, Calls Tryz.prog 58 #[.int .i64 n, .int .i64 1] w (GivesF (Q.mk' false n 1) 2 w)) := Lib.hid (fun w => fraction_f n 1 (by omega) hn (by omega) w)
  have B0 := Lib.hid (Blk.new w #[.bool false, .slice none 0 0, .slice none 0 0] 51)
  have hBd : Below w.heap.size w (w.alloc (.cells #[.bool false, .slice none 0 0, .slice none 0 0] 51)) := (Below.refl _ _).alloc (Nat.le_refl _) _
  obtain ⟨q, hq⟩ : ∃ q, Q.mk' false n 1 = q := ⟨_, rfl⟩
  rw [hq] at FR ⊢
  obtain ⟨qs, hqs⟩ : ∃ t, q.neg = t := ⟨_, rfl⟩
  have HS := Lib.hid hqs
  have F2 : Hid (∀ w, Calls Tryz.prog 58 #[.int .i64 n, .int .i64 1] w fun e w' => ∃ p l k p' l' k', e = .returned (.agg #[.bool qs, .slice p l k, .slice p' l' k']) ∧ RatN w' (.agg #[.bool qs, .slice p l k, .slice p' l' k']) q 2 ∧ Fresh w.heap.size (.slice p l k) ∧ Fresh w.heap.size (.slice p' l' k') ∧ Below w.heap.size w w') := Lib.hid (fun w => by rw [← hqs]; exact FR.out w)
  clear FR hq hqs
  go_enter Tryz.func36, Tryz.ntmps36
  go_wp2_with (go_at_call 58; ((with_reducible refine (F2.out _).mono ?_); rintro e w1 ⟨p1, l1, k1, p2, l2, k2, rfl, hv1, hf1, hf2, hb1⟩; have hB1 := bel2' hBd hb1; have B1 := Lib.hid (B0.out.keep hb1); obtain ⟨m0, m1, m2⟩ := B1.out.three; obtain ⟨f0, f1, f2⟩ := B1.out.free3))
  refine bodyPost_ret (v := .agg #[.bool qs, .slice p1 l1 k1, .slice p2 l2 k2]) (by simp [results, Tryz.results36, go_sem, m0, m1, m2]) rfl ?_
  obtain ⟨y1, y2, ev, g1, g2⟩ := hv1
  simp only [Value.agg.injEq, Array.mk.injEq, List.cons.injEq, and_true] at ev
  obtain ⟨-, rfl, rfl⟩ := ev
  have gg := retN (q := q) hB1 (Nat.le_refl _) B1.out (by simp) (by simp) (by simp) g1 g2
  rw [HS.out] at gg
  unfold GivesF
  rw [HS.out]
  have hsz := hBd.size
  exact ⟨_, _, _, _, _, _, rfl, gg.1, hf1.mono hsz, hf2.mono hsz, gg.2⟩

set_option maxHeartbeats 2000000 in
theorem number_c {v : Value} {l : List Q} {w : World} (hv : RatsAt w v l) (c : Nat) (_hc : c < 1000) :
    Calls Tryz.prog 81 #[v, .int .i64 c] w (GivesS (l.getD c (Q.of 0)) w) := by
  have hlm := SliceOf.len hv
  obtain ⟨p, cp, rfl⟩ := hv.shp
  have H := Lib.hid hv
  obtain ⟨n, hn⟩ : ∃ n, l.length = n := ⟨_, rfl⟩
  have HN := Lib.hid hn
  rw [hn] at H hlm ⊢
  clear hv hn
  by_cases hlt : c < n
  · obtain ⟨q, hq⟩ : ∃ q, l.getD c (Q.of 0) = q := ⟨_, rfl⟩
    rw [hq]
    obtain ⟨b, off, p1, l1, k1, p2, l2, k2, rfl, g1, g2, g3, g4, c0, c1, c2⟩ := H.out.cellsAt (by rw [HN.out]; exact hlt) hq
    have G := Lib.hid (And.intro g3 g4)
    have d0 := cell_alloc_old (o := .cells #[.bool false, .slice none 0 0, .slice none 0 0] 51) c0
    have d1 := cell_alloc_old (o := .cells #[.bool false, .slice none 0 0, .slice none 0 0] 51) c1
    have d2 := cell_alloc_old (o := .cells #[.bool false, .slice none 0 0, .slice none 0 0] 51) c2
    have hz : (c : Int) < (n : Int) := by omega
    clear H hq g3 g4 g1 c0 c1 c2
    go_enter Tryz.func81, Tryz.ntmps81
    go_wp2_with fail
    refine bodyPost_ret (v := .agg #[.bool false, .slice p1 l1 k1, .slice p2 l2 k2]) (by simp [results, Tryz.results81, go_sem]) rfl ?_
    have hb : Below w.heap.size w (w.alloc (.cells #[.bool false, .slice p1 l1 k1, .slice p2 l2 k2] 51)) := (Below.refl _ _).alloc (Nat.le_refl _) _
    exact ⟨_, _, _, _, _, _, rfl, G.out.1.keep hb, G.out.2, hb⟩
  · have hz : ¬ (c : Int) < (n : Int) := by omega
    have he : l.getD c (Q.of 0) = Q.of 0 := by rw [List.getD_eq_getElem?_getD, List.getElem?_eq_none (by rw [HN.out]; omega)]; rfl
    rw [he]
    have OF : Hid (∀ w, Calls Tryz.prog 36 #[.int .i64 0] w fun e w' => ∃ p l k p' l' k', e = .returned (.agg #[.bool false, .slice p l k, .slice p' l' k']) ∧ RatN w' (.agg #[.bool false, .slice p l k, .slice p' l' k']) (Q.of 0) 2 ∧ Below w.heap.size w w') := Lib.hid (fun w => (whole_f 0 (by omega) w).mono (by
      rintro e w' ⟨p, l, k, p', l', k', rfl, h1, _, _, h4⟩
      exact ⟨p, l, k, p', l', k', rfl, h1, h4⟩))
    have B0 := Lib.hid (Blk.new w #[.bool false, .slice none 0 0, .slice none 0 0] 51)
    have hBd : Below w.heap.size w (w.alloc (.cells #[.bool false, .slice none 0 0, .slice none 0 0] 51)) := (Below.refl _ _).alloc (Nat.le_refl _) _
    clear H he
    go_enter Tryz.func81, Tryz.ntmps81
    go_wp2_with (go_at_call 36; ((with_reducible refine (OF.out _).mono ?_); rintro e w1 ⟨p1, l1, k1, p2, l2, k2, rfl, hv1, hb1⟩; have hB1 := bel2' hBd hb1; have B1 := Lib.hid (B0.out.keep hb1); obtain ⟨m0, m1, m2⟩ := B1.out.three; obtain ⟨f0, f1, f2⟩ := B1.out.free3))
    refine bodyPost_ret (v := .agg #[.bool false, .slice p1 l1 k1, .slice p2 l2 k2]) (by simp [results, Tryz.results81, go_sem, m0, m1, m2]) rfl ?_
    obtain ⟨y1, y2, ev, g1, g2⟩ := hv1
    simp only [Value.agg.injEq, Array.mk.injEq, List.cons.injEq, and_true] at ev
    obtain ⟨-, rfl, rfl⟩ := ev
    have gg := retN (q := Q.of 0) hB1 (Nat.le_refl _) B1.out (by simp) (by simp) (by simp) g1 g2
    exact ⟨_, _, _, _, _, _, rfl, gg.1, ShQ.zero, gg.2⟩

end Go.Proofs.YtbnhgmikegdppaaGreat

/- Comparing short Ratios: short, times, compare of the reference. -/
namespace Go.Proofs.Nums

/-- The comparison of two short Ratios. -/
def cmpS (a b : Q) : Int := if a.n * b.d < b.n * a.d then -1 else if b.n * a.d < a.n * b.d then 1 else 0
theorem Q.cmp_sh {a b : Q} (ha : ShQ a) (hb : ShQ b) : Q.cmp a b = cmpS a b := by
  obtain ⟨na, sa, _, _⟩ := ha
  obtain ⟨nb, sb, _, _⟩ := hb
  have hf : (Q.mk' (!b.norm.neg) b.norm.n b.norm.d).Nf := Q.mk'_nf _ _ _
  have rf := Q.mk'_rep (!b.norm.neg) b.norm.n b.norm.d (Q.norm_d b)
  have rs := Q.addR_rep (Q.norm_d a) hf.1
  rw [← Q.sub_eq] at rs
  rw [sg_flip, ← Q.s_sg] at rf
  rw [Q.nf_norm nb] at rf
  rw [Q.nf_norm na, Q.nf_norm nb] at rs
  rw [Q.nf_norm nb] at hf
  have hS : (Q.sub a b).Nf := Q.addR_nf _ _
  have ea : a.s = (a.n : Int) := by unfold Q.s; rw [sa]; rfl
  have eb : b.s = (b.n : Int) := by unfold Q.s; rw [sb]; rfl
  rw [ea] at rs
  rw [eb] at rf
  unfold Q.Rep at *
  generalize Q.mk' (!b.neg) b.n b.d = F at *
  have a1 : (0 : Int) < a.d := by have := na.1; omega
  have b1 : (0 : Int) < b.d := by have := nb.1; omega
  have f1 : (0 : Int) < F.d := by have := hf.1; omega
  have s1 : (0 : Int) < (Q.sub a b).d := by have := hS.1; omega
  have key : (Q.sub a b).s * ((a.d : Int) * F.d * b.d) = ((a.n : Int) * b.d - b.n * a.d) * (F.d * (Q.sub a b).d) := by
    push_cast at rs
    generalize (Q.sub a b).s = S at *
    generalize ((Q.sub a b).d : Int) = Sd at *
    generalize F.s = Fs at *
    generalize (a.d : Int) = Ad at *
    generalize (b.d : Int) = Bd at *
    generalize (F.d : Int) = Fd at *
    generalize (a.n : Int) = A at *
    generalize (b.n : Int) = B at *
    have e1 : S * (Ad * Fd * Bd) = (S * (Ad * Fd)) * Bd := by grind
    rw [e1, rs]
    grind
  have p1 : (0 : Int) < (a.d : Int) * F.d * b.d := Int.mul_pos (Int.mul_pos a1 f1) b1
  have p2 : (0 : Int) < (F.d : Int) * (Q.sub a b).d := Int.mul_pos f1 s1
  have c1 : ((a.n * b.d : Nat) : Int) = (a.n : Int) * b.d := Int.natCast_mul _ _
  have c2 : ((b.n * a.d : Nat) : Int) = (b.n : Int) * a.d := Int.natCast_mul _ _
  unfold Q.cmp cmpS
  simp only
  by_cases h1 : a.n * b.d < b.n * a.d
  · rw [if_pos h1]
    have hneg : (Q.sub a b).s < 0 := by
      rcases Int.lt_or_le (Q.sub a b).s 0 with h | h
      · exact h
      · exfalso
        have g1 := Int.mul_nonneg h (Int.le_of_lt p1)
        have g2 : ((a.n : Int) * b.d - b.n * a.d) * (F.d * (Q.sub a b).d) < 0 := Int.mul_neg_of_neg_of_pos (by omega) p2
        omega
    have hn : (Q.sub a b).neg = true := by
      unfold Q.s at hneg
      cases hc : (Q.sub a b).neg
      · rw [hc] at hneg; simp at hneg; omega
      · rfl
    rw [if_pos hn]
  · rw [if_neg h1]
    have hpos : 0 ≤ (Q.sub a b).s := by
      rcases Int.lt_or_le (Q.sub a b).s 0 with h | h
      · exfalso
        have g1 := Int.mul_neg_of_neg_of_pos h p1
        have g2 : 0 ≤ ((a.n : Int) * b.d - b.n * a.d) * (F.d * (Q.sub a b).d) := Int.mul_nonneg (by omega) (Int.le_of_lt p2)
        omega
      · exact h
    have hn : (Q.sub a b).neg = false := by
      cases hc : (Q.sub a b).neg
      · rfl
      · exfalso
        unfold Q.s at hpos
        rw [hc] at hpos
        simp at hpos
        have := hS.2.1 (by omega)
        rw [hc] at this
        exact absurd this (by decide)
    have hs2 : (Q.sub a b).s = ((Q.sub a b).n : Int) := by unfold Q.s; rw [hn]; rfl
    rw [if_neg (by rw [hn]; decide)]
    by_cases h2 : b.n * a.d < a.n * b.d
    · rw [if_pos h2, if_neg]
      intro h0
      rw [hs2, h0] at key
      have g2 : 0 < ((a.n : Int) * b.d - b.n * a.d) * (F.d * (Q.sub a b).d) := Int.mul_pos (by omega) p2
      simp at key
      omega
    · rw [if_neg h2, if_pos]
      have e0 : (a.n : Int) * b.d - b.n * a.d = 0 := by omega
      rw [e0, Int.zero_mul] at key
      have : (Q.sub a b).s = 0 := by
        rcases Int.mul_eq_zero.1 key with h | h
        · exact h
        · omega
      omega

end Go.Proofs.Nums
namespace Go.Proofs.YtbnhgmikegdppaaGreat
open Go.RowKit Go.Proofs.Kit Go.Proofs.Nums

theorem limb1 {w : World} {p : Option Addr} {l k n : Nat} (h : Nrm w (.slice p l k) n 2) (h0 : 0 < n) (h1 : n < 4294967296) : ∃ b off, p = some ⟨b, off, none⟩ ∧ l = 1 ∧ 1 ≤ k ∧ k ≤ 9223372036854775807 ∧ w.cell? ⟨b, off, none⟩ = some (.int .u32 n) := by
  have e : limbs n = [n] := by rw [limbs_pos n (by omega), Nat.mod_eq_of_lt h1, Nat.div_eq_of_lt h1, limbs_zero]
  have g := h.1
  rw [e] at g
  rcases RowAt.cases g.1 with ⟨h2, _⟩ | ⟨_, b, off, cap, hv, h3, h4, _, hc⟩
  · simp at h2
  · simp only [Value.slice.injEq] at hv
    obtain ⟨rfl, h5, rfl⟩ := hv
    have := hc 0 _ rfl
    exact ⟨b, off, rfl, h5, h3, h4, this⟩
theorem limb0 {w : World} {p : Option Addr} {l k : Nat} (h : Nrm w (.slice p l k) 0 2) : l = 0 := by
  have g := h.1
  rw [limbs_zero] at g
  obtain ⟨p', cap, hv, _⟩ := g.1
  simp only [Value.slice.injEq] at hv
  exact hv.2.1
theorem RatN.parts {w : World} {b : Bool} {vn vd : Value} {q : Q} {L : Nat} (h : RatN w (.agg #[.bool b, vn, vd]) q L) : Nrm w vn q.n L ∧ Nrm w vd q.d L := by
  obtain ⟨y1, y2, ev, g1, g2⟩ := h
  simp only [Value.agg.injEq, Array.mk.injEq, List.cons.injEq, and_true] at ev
  obtain ⟨-, rfl, rfl⟩ := ev
  exact ⟨g1, g2⟩

set_option maxHeartbeats 2000000 in
theorem short_c {w : World} {p1 p2 : Option Addr} {l1 k1 l2 k2 : Nat} {q : Q} (h : RatN w (.agg #[.bool false, .slice p1 l1 k1, .slice p2 l2 k2]) q 2) (hs : ShQ q) :
    Calls Tryz.prog 91 #[.agg #[.bool false, .slice p1 l1 k1, .slice p2 l2 k2]] w fun e w' => e = .returned (.bool true) ∧ Below w.heap.size w w' := by
  obtain ⟨h1, h2⟩ := h.parts
  have d0 : 0 < q.d := hs.1.1
  obtain ⟨bd, od, rfl, rfl, c1, c2, cd⟩ := limb1 h2 d0 hs.2.2.2
  have hl1 : l1 ≤ 1 := by
    rcases Nat.eq_zero_or_pos q.n with h0 | h0
    · rw [h0] at h1; have := limb0 h1; omega
    · obtain ⟨_, _, _, e, _⟩ := limb1 h1 h0 hs.2.2.1; omega
  have hl1z : (l1 : Int) ≤ 1 := by omega
  obtain ⟨d, hd⟩ : ∃ d, q.d = d := ⟨_, rfl⟩
  rw [hd] at cd d0
  have gd : (0 : Int) < (d : Int) := by omega
  have e0 := cell_alloc_old (o := .cells #[.bool false, .slice p1 l1 k1, .slice (some ⟨bd, od, none⟩) 1 k2] 51) cd
  obtain ⟨m0, m1, m2⟩ := (Blk.new w #[.bool false, .slice p1 l1 k1, .slice (some ⟨bd, od, none⟩) 1 k2] 51).three
  clear h h1 h2 hs hd cd
  go_enter Tryz.func91, Tryz.ntmps91
  go_wp2_with fail
  go_ret
  exact ⟨rfl, (Below.refl _ _).alloc (Nat.le_refl _) _⟩

set_option maxHeartbeats 2000000 in
theorem times_c {w : World} {p1 p2 p3 p4 : Option Addr} {l1 k1 l2 k2 l3 k3 l4 k4 : Nat} {a b : Q} (ha : RatN w (.agg #[.bool false, .slice p1 l1 k1, .slice p2 l2 k2]) a 2) (sa : ShQ a) (hb : RatN w (.agg #[.bool false, .slice p3 l3 k3, .slice p4 l4 k4]) b 2) (sb : ShQ b) :
    Calls Tryz.prog 94 #[.agg #[.bool false, .slice p1 l1 k1, .slice p2 l2 k2], .agg #[.bool false, .slice p3 l3 k3, .slice p4 l4 k4]] w fun e w' => e = .returned (.int .u64 ((a.n * b.d : Nat) : Int)) ∧ Below w.heap.size w w' := by
  obtain ⟨h1, _⟩ := ha.parts
  obtain ⟨_, h2⟩ := hb.parts
  have d0 : 0 < b.d := sb.1.1
  have ls := sb.2.2.2
  have ln := sa.2.2.1
  obtain ⟨bd, od, rfl, rfl, c1, c2, cd⟩ := limb1 h2 d0 ls
  obtain ⟨d, hd⟩ : ∃ d, b.d = d := ⟨_, rfl⟩
  obtain ⟨n, hn⟩ : ∃ d, a.n = d := ⟨_, rfl⟩
  rw [hd] at cd d0 ls ⊢
  rw [hn] at h1 ln ⊢
  rcases Nat.eq_zero_or_pos n with h0 | h0
  · subst h0
    obtain rfl := limb0 h1
    rw [Nat.zero_mul]
    obtain ⟨m0, m1, m2⟩ := ((Blk.new w #[.bool false, .slice p1 0 k1, .slice p2 l2 k2] 51).alloc (.cells #[.bool false, .slice p3 l3 k3, .slice (some ⟨bd, od, none⟩) 1 k4] 51)).three
    clear ha sa hb sb h1 h2 hd hn cd
    go_enter Tryz.func94, Tryz.ntmps94
    go_wp2_with fail
    go_ret
    exact ⟨rfl, ((Below.refl _ _).alloc (Nat.le_refl _) _).alloc (by simp) _⟩
  · obtain ⟨bn, on, rfl, rfl, c3, c4, cn⟩ := limb1 h1 h0 ln
    have e0 := cell_alloc_old (o := .cells #[.bool false, .slice p3 l3 k3, .slice (some ⟨bd, od, none⟩) 1 k4] 51) (cell_alloc_old (o := .cells #[.bool false, .slice (some ⟨bn, on, none⟩) 1 k1, .slice p2 l2 k2] 51) cd)
    have e1 := cell_alloc_old (o := .cells #[.bool false, .slice p3 l3 k3, .slice (some ⟨bd, od, none⟩) 1 k4] 51) (cell_alloc_old (o := .cells #[.bool false, .slice (some ⟨bn, on, none⟩) 1 k1, .slice p2 l2 k2] 51) cn)
    obtain ⟨m0, m1, m2⟩ := ((Blk.new w #[.bool false, .slice (some ⟨bn, on, none⟩) 1 k1, .slice p2 l2 k2] 51).alloc (.cells #[.bool false, .slice p3 l3 k3, .slice (some ⟨bd, od, none⟩) 1 k4] 51)).three
    have hk := Blk.new (w.alloc (.cells #[.bool false, .slice (some ⟨bn, on, none⟩) 1 k1, .slice p2 l2 k2] 51)) #[.bool false, .slice p3 l3 k3, .slice (some ⟨bd, od, none⟩) 1 k4] 51
    rw [World.size_alloc] at hk
    obtain ⟨n0, n1, n2⟩ := hk.three
    have hmul : (n : Int) * (d : Int) = ((n * d : Nat) : Int) := (Int.natCast_mul n d).symm
    have hlt : n * d < 4294967296 * 4294967296 := Nat.mul_lt_mul'' ln ls
    obtain ⟨x, hx⟩ : ∃ x, n * d = x := ⟨_, rfl⟩
    rw [hx] at hmul hlt ⊢
    have w1 : IntKind.u64.wrap (n : Int) = (n : Int) := wu64 (by omega) (by omega)
    have w2 : IntKind.u64.wrap (d : Int) = (d : Int) := wu64 (by omega) (by omega)
    have w3 : IntKind.u64.wrap (x : Int) = (x : Int) := wu64 (by omega) (by omega)
    clear ha sa hb sb h1 h2 hd hn cd cn hk hx
    go_enter Tryz.func94, Tryz.ntmps94
    go_wp2_with fail
    go_quiet (fail)
    go_wp2_with fail
    go_ret
    exact ⟨rfl, below_drewN (((Below.refl _ _).alloc (Nat.le_refl _) _).alloc (by simp) _) _⟩

theorem Blk.six2 {b b' : Nat} {a0 a1 a2 b0 b1 b2 : Value} {w : World} (h : Blk b #[a0, a1, a2] w) (g : Blk b' #[b0, b1, b2] w) :
    w.cell? ⟨b, 0, none⟩ = some a0 ∧ w.cell? ⟨b, 1, none⟩ = some a1 ∧ w.cell? ⟨b, 2, none⟩ = some a2 ∧ w.cell? ⟨b', 0, none⟩ = some b0 ∧ w.cell? ⟨b', 1, none⟩ = some b1 ∧ w.cell? ⟨b', 2, none⟩ = some b2 :=
  ⟨h.three.1, h.three.2.1, h.three.2.2, g.three.1, g.three.2.1, g.three.2.2⟩

set_option maxRecDepth 100000 in
set_option maxHeartbeats 4000000 in
theorem compare_c {w : World} {p1 p2 p3 p4 : Option Addr} {l1 k1 l2 k2 l3 k3 l4 k4 : Nat} {a b : Q} (ha : RatN w (.agg #[.bool false, .slice p1 l1 k1, .slice p2 l2 k2]) a 2) (sa : ShQ a) (hb : RatN w (.agg #[.bool false, .slice p3 l3 k3, .slice p4 l4 k4]) b 2) (sb : ShQ b) :
    Calls Tryz.prog 80 #[.agg #[.bool false, .slice p1 l1 k1, .slice p2 l2 k2], .agg #[.bool false, .slice p3 l3 k3, .slice p4 l4 k4]] w fun e w' => e = .returned (.int .i64 (cmpS a b)) ∧ Below w.heap.size w w' := by
  have S1 : Hid (∀ w', Below w.heap.size w w' → Calls Tryz.prog 91 #[.agg #[.bool false, .slice p1 l1 k1, .slice p2 l2 k2]] w' fun e w'' => e = .returned (.bool true) ∧ Below w'.heap.size w' w'') := Lib.hid (fun w' h => short_c (ha.keep h) sa)
  have S2 : Hid (∀ w', Below w.heap.size w w' → Calls Tryz.prog 91 #[.agg #[.bool false, .slice p3 l3 k3, .slice p4 l4 k4]] w' fun e w'' => e = .returned (.bool true) ∧ Below w'.heap.size w' w'') := Lib.hid (fun w' h => short_c (hb.keep h) sb)
  have M1 : Hid (∀ w', Below w.heap.size w w' → Calls Tryz.prog 94 #[.agg #[.bool false, .slice p1 l1 k1, .slice p2 l2 k2], .agg #[.bool false, .slice p3 l3 k3, .slice p4 l4 k4]] w' fun e w'' => e = .returned (.int .u64 ((a.n * b.d : Nat) : Int)) ∧ Below w'.heap.size w' w'') := Lib.hid (fun w' h => times_c (ha.keep h) sa (hb.keep h) sb)
  have M2 : Hid (∀ w', Below w.heap.size w w' → Calls Tryz.prog 94 #[.agg #[.bool false, .slice p3 l3 k3, .slice p4 l4 k4], .agg #[.bool false, .slice p1 l1 k1, .slice p2 l2 k2]] w' fun e w'' => e = .returned (.int .u64 ((b.n * a.d : Nat) : Int)) ∧ Below w'.heap.size w' w'') := Lib.hid (fun w' h => times_c (hb.keep h) sb (ha.keep h) sa)
  obtain ⟨x, hx⟩ : ∃ x, a.n * b.d = x := ⟨_, rfl⟩
  obtain ⟨y, hy⟩ : ∃ x, b.n * a.d = x := ⟨_, rfl⟩
  rw [hx] at M1
  rw [hy] at M2
  have HC : Hid (cmpS a b = if x < y then -1 else if y < x then 1 else 0) := Lib.hid (by unfold cmpS; rw [hx, hy])
  obtain ⟨z, hz⟩ : ∃ z, cmpS a b = z := ⟨_, rfl⟩
  rw [hz] at HC ⊢
  obtain ⟨W, hW⟩ : ∃ W, ((w.alloc (.cells #[.bool false, .slice p1 l1 k1, .slice p2 l2 k2] 51)).alloc (.cells #[.bool false, .slice p3 l3 k3, .slice p4 l4 k4] 51)) = W := ⟨_, rfl⟩
  have hBW : Below w.heap.size w W := by rw [← hW]; exact ((Below.refl _ _).alloc (Nat.le_refl _) _).alloc (by simp) _
  have A0 : Blk w.heap.size #[.bool false, .slice p1 l1 k1, .slice p2 l2 k2] W := by rw [← hW]; exact (Blk.new w _ _).alloc _
  have A1 : Blk (w.heap.size + 1) #[.bool false, .slice p3 l3 k3, .slice p4 l4 k4] W := by
    rw [← hW]
    have := Blk.new (w.alloc (.cells #[.bool false, .slice p1 l1 k1, .slice p2 l2 k2] 51)) #[.bool false, .slice p3 l3 k3, .slice p4 l4 k4] 51
    rwa [World.size_alloc] at this
  have B0 := Lib.hid A0
  have B1 := Lib.hid A1
  obtain ⟨m0, m1, m2⟩ := A0.three
  obtain ⟨n0, n1, n2⟩ := A1.three
  clear ha hb sa sb hx hy hz A0 A1
  go_enter Tryz.func80, Tryz.ntmps80
  go_wp2_with (first
    | (go_at_call 91; ((with_reducible refine (S1.out _ hBW).mono ?_); rintro e w1 ⟨rfl, hb1⟩; have hB1 := bel2' hBW hb1; have C0 := Lib.hid (B0.out.keep hb1); have C1 := Lib.hid (B1.out.keep hb1); obtain ⟨k0, k1', k2'⟩ := C1.out.three))
    | (go_at_call 91; ((with_reducible refine (S2.out _ hB1).mono ?_); rintro e w2 ⟨rfl, hb2⟩; have hB2 := (bel2' hB1 hb2).drew; have D0 := Lib.hid (C0.out.keep hb2).drew; have D1 := Lib.hid (C1.out.keep hb2).drew)))
  go_region_held3 (fun w' => w'.cell? ⟨w.heap.size, 0, none⟩ = some (.bool false) ∧ w'.cell? ⟨w.heap.size, 1, none⟩ = some (.slice p1 l1 k1) ∧ w'.cell? ⟨w.heap.size, 2, none⟩ = some (.slice p2 l2 k2) ∧ w'.cell? ⟨w.heap.size + 1, 0, none⟩ = some (.bool false) ∧ w'.cell? ⟨w.heap.size + 1, 1, none⟩ = some (.slice p3 l3 k3) ∧ w'.cell? ⟨w.heap.size + 1, 2, none⟩ = some (.slice p4 l4 k4))
    (first | exact Blk.six2 E0.out E1.out | exact Blk.six2 F0.out F1.out | exact Blk.six2 D0.out D1.out)
    (first
    | (go_at_call 94; ((with_reducible refine (M1.out _ hB2).mono ?_); rintro e w3 ⟨rfl, hb3⟩; have hB3 := bel2' hB2 hb3; have F0 := Lib.hid (D0.out.keep hb3); have F1 := Lib.hid (D1.out.keep hb3)))
    | (go_at_call 94; ((with_reducible refine (M2.out _ hB2).mono ?_); rintro e w3 ⟨rfl, hb3⟩; have hB3 := bel2' hB2 hb3; have F0 := Lib.hid (D0.out.keep hb3); have F1 := Lib.hid (D1.out.keep hb3)))
    | (go_at_call 94; ((with_reducible refine (M1.out _ hB3).mono ?_); rintro e w4 ⟨rfl, hb4⟩; have hB4 := bel2' hB3 hb4; have E0 := Lib.hid (F0.out.keep hb4); have E1 := Lib.hid (F1.out.keep hb4)))
    | (go_at_call 94; ((with_reducible refine (M2.out _ hB3).mono ?_); rintro e w4 ⟨rfl, hb4⟩; have hB4 := bel2' hB3 hb4; have E0 := Lib.hid (F0.out.keep hb4); have E1 := Lib.hid (F1.out.keep hb4))))
  all_goals
    by_cases c1 : x < y
    · have d1 : (x : Int) < (y : Int) := by omega
      have HZ : Hid (z = -1) := Lib.hid (by rw [HC.out, if_pos c1])
      clear c1
      go_wp2_with fail
      go_ret
      exact ⟨ret_ii HZ.out.symm, hB4⟩
    · have d1 : ¬ (x : Int) < (y : Int) := by omega
      by_cases c2 : y < x
      · have d2 : (y : Int) < (x : Int) := by omega
        have HZ : Hid (z = 1) := Lib.hid (by rw [HC.out, if_neg c1, if_pos c2])
        clear c1 c2
        go_wp2_with fail
        go_ret
        exact ⟨ret_ii HZ.out.symm, hB4⟩
      · have d2 : ¬ (y : Int) < (x : Int) := by omega
        have HZ : Hid (z = 0) := Lib.hid (by rw [HC.out, if_neg c1, if_neg c2])
        clear c1 c2
        go_wp2_with fail
        go_ret
        exact ⟨ret_ii HZ.out.symm, hB4⟩

end Go.Proofs.YtbnhgmikegdppaaGreat

/- electionmake.Ballot, Rising and Rename. -/
namespace Go.Proofs.Nums

/-- electionmake.Ballot. -/
def ballotStep (n : Int) (out : List Int) (y : Int) : List Int := if (out.length : Int) < n ∧ hasB out (y % n) = false then out ++ [y % n] else out
def ballotS (n : Int) (l : List Int) : List Int := l.foldl (ballotStep n) []
theorem ballot_full {n : Int} {out : List Int} (h : ¬ (out.length : Int) < n) (l : List Int) : l.foldl (ballotStep n) out = out := by
  induction l with
  | nil => rfl
  | cons y l ih =>
    rw [List.foldl_cons]
    have e : ballotStep n out y = out := by unfold ballotStep; rw [if_neg (fun g => h g.1)]
    rw [e, ih]
theorem ballot_ok {n : Int} (hn : 1 ≤ n) (l : List Int) : (ballotS n l).Nodup ∧ (∀ x ∈ ballotS n l, 0 ≤ x ∧ x < n) ∧ (l ≠ [] → ballotS n l ≠ []) := by
  have key : ∀ (l out : List Int), out.Nodup → (∀ x ∈ out, 0 ≤ x ∧ x < n) → (l.foldl (ballotStep n) out).Nodup ∧ (∀ x ∈ l.foldl (ballotStep n) out, 0 ≤ x ∧ x < n) ∧ (out ≠ [] ∨ l ≠ [] → l.foldl (ballotStep n) out ≠ []) := by
    intro l
    induction l with
    | nil =>
      intro out h1 h2
      exact ⟨h1, h2, fun h => by rcases h with h | h; exact h; exact absurd rfl h⟩
    | cons y l ih =>
      intro out h1 h2
      rw [List.foldl_cons]
      unfold ballotStep
      by_cases hc : (out.length : Int) < n ∧ hasB out (y % n) = false
      · rw [if_pos hc]
        have hm1 := Int.emod_nonneg y (show n ≠ 0 by omega)
        have hm2 := Int.emod_lt_of_pos y (show 0 < n by omega)
        have hnin := hasB_false.1 hc.2
        have g1 : (out ++ [y % n]).Nodup := by
          rw [List.nodup_append]
          refine ⟨h1, by simp, fun a ha b hb => ?_⟩
          rw [List.mem_singleton] at hb
          rintro rfl
          rw [hb] at ha
          exact hnin ha
        have g2 : ∀ x ∈ out ++ [y % n], 0 ≤ x ∧ x < n := by
          intro x hx
          rcases List.mem_append.1 hx with g | g
          · exact h2 x g
          · rw [List.mem_singleton.1 g]; exact ⟨hm1, hm2⟩
        have := ih _ g1 g2
        exact ⟨this.1, this.2.1, fun _ => this.2.2 (.inl (by simp))⟩
      · rw [if_neg hc]
        have hne : out ≠ [] := by
          rintro rfl
          apply hc
          exact ⟨by simp; omega, by rw [hasB_false]; simp⟩
        have := ih _ h1 h2
        exact ⟨this.1, this.2.1, fun _ => this.2.2 (.inl hne)⟩
  have := key l [] List.nodup_nil (fun x hx => by simp at hx)
  exact ⟨this.1, this.2.1, fun h => this.2.2 (.inr h)⟩

/-- electionmake.Rising. -/
def riseTo (l : List Int) (k : Nat) : List Int := ((List.range k).map fun i : Nat => (i : Int)).filter fun x => hasB l x
def risingS (l : List Int) : List Int := riseTo l 12
theorem riseTo_yes {l : List Int} {k : Nat} (h : hasB l k = true) : riseTo l (k + 1) = riseTo l k ++ [(k : Int)] := by
  unfold riseTo
  rw [List.range_succ, List.map_append, List.filter_append, List.map_singleton, List.filter_cons, if_pos h, List.filter_nil]
theorem riseTo_no {l : List Int} {k : Nat} (h : hasB l k = false) : riseTo l (k + 1) = riseTo l k := by
  unfold riseTo
  rw [List.range_succ, List.map_append, List.filter_append, List.map_singleton, List.filter_cons, if_neg (by rw [h]; decide), List.filter_nil, List.append_nil]
theorem riseTo_len (l : List Int) (k : Nat) : (riseTo l k).length ≤ k := by
  unfold riseTo
  have := List.length_filter_le (fun x => hasB l x) ((List.range k).map fun i : Nat => (i : Int))
  rwa [List.length_map, List.length_range] at this
theorem mem_rising {l : List Int} {x : Int} : x ∈ risingS l ↔ 0 ≤ x ∧ x < 12 ∧ x ∈ l := by
  unfold risingS riseTo
  rw [List.mem_filter, List.mem_map]
  constructor
  · rintro ⟨⟨i, hi, rfl⟩, h⟩
    rw [List.mem_range] at hi
    exact ⟨by omega, by omega, hasB_true.1 h⟩
  · rintro ⟨h1, h2, h3⟩
    exact ⟨⟨x.toNat, by rw [List.mem_range]; omega, by omega⟩, hasB_true.2 h3⟩
theorem rising_sorted (l : List Int) : (risingS l).Pairwise (· < ·) := by
  unfold risingS riseTo
  apply List.Pairwise.filter
  rw [List.pairwise_map]
  exact List.pairwise_lt_range.imp (fun h => by omega)

/-- electionmake.Rename. -/
def renameS (l to : List Int) : List Int := l.map fun x => to.getD x.toNat 0

end Go.Proofs.Nums
namespace Go.Proofs.YtbnhgmikegdppaaGreat
open Go.RowKit Go.Proofs.Kit Go.Proofs.Nums

theorem IntsAt.len {w : World} {v : Value} {l : List Int} (hv : IntsAt w v l) : l.length ≤ 9223372036854775807 := by
  obtain ⟨p, c, _, h1, h2, _⟩ := hv
  rw [List.length_map] at h1
  omega
theorem ints_owned {w : World} {base : Nat} {v : Value} {n : Nat} {o : List Int} (h : w.ownsRow base 3 1 v n (o.map (Value.int .i64))) : IntsAt w v o := RowAt.owned h

set_option maxHeartbeats 2000000 in
theorem mballot_c {v : Value} {l : List Int} {w : World} (hv : IntsAt w v l) (n : Int) (hn1 : 1 ≤ n) (hn2 : n ≤ 1000) :
    Calls Tryz.prog 45 #[.int .i64 n, v] w fun e w' => ∃ v', e = .returned v' ∧ IntsAt w' v' (ballotS n l) ∧ Fresh w.heap.size v' ∧ Below w.heap.size w w' := by
  have H := Lib.hid hv
  have hlm := hv.len
  obtain ⟨p, c, rfl⟩ := hv.shape
  obtain ⟨len, hlen⟩ : ∃ n, l.length = n := ⟨_, rfl⟩
  have HN := Lib.hid hlen
  rw [hlen] at hlm H ⊢
  clear hv hlen
  go_enter Tryz.func45, Tryz.ntmps45
  go_wp2_with fail
  go_loopw [5, 6] (fun ov iv wr => ∃ k m : Nat, ∃ o : List Int, k ≤ len ∧ m ≤ 1000 ∧ iv = .int .i64 k ∧ wr.ownsRow w.heap.size 3 1 ov m (o.map (Value.int .i64)) ∧ Below w.heap.size w wr ∧ Hid (o.length = m ∧ o = (l.take k).foldl (ballotStep n) [])) (fun _ iv _ => len - (intOf iv).toNat)
  case atStart => exact ⟨0, 0, [], by omega, by omega, rfl, World.ownsRow_nil _ _ _ _, Below.refl _ _, Lib.hid ⟨rfl, rfl⟩⟩
  case round =>
    obtain ⟨k, m, o, hk, hm, rfl, hown, hbel, hP⟩ := hrel
    obtain ⟨p1, c1, ho1⟩ : ∃ p c, u5 = Value.slice p m c := by
      rcases ownsRow_cases hown with ⟨h1, h2⟩ | ⟨g, cap, h1, _⟩
      · subst h2; exact ⟨_, _, h1⟩
      · exact ⟨_, _, h1⟩
    subst ho1
    by_cases hlt : k < len
    · have hltz : (k : Int) < (len : Int) := by omega
      by_cases hmn : (m : Int) < n
      · obtain ⟨b, off, hp0, hc1, hc2, hcell⟩ := (H.out.keep hbel).cellAt k (by rw [HN.out]; exact hlt)
        subst hp0
        obtain ⟨y, hy⟩ : ∃ y, l.getD k 0 = y := ⟨_, rfl⟩
        have hts := take_snoc_i (l := l) (k := k) (by rw [HN.out]; exact hlt)
        rw [hy] at hcell hts
        have z1 := Int.emod_nonneg y (show n ≠ 0 by omega)
        have z2 := Int.emod_lt_of_pos y (show 0 < n by omega)
        have C : Hid (∀ w, Calls Tryz.prog 8 #[.int .i64 y, .int .i64 n] w fun e w' => e = .returned (.int .i64 (y % n)) ∧ w = w') := Lib.hid (fun w => mod_c y n (by omega) (by omega) w)
        have hstep : (l.take (k + 1)).foldl (ballotStep n) [] = ballotStep n o y := by rw [hts, List.foldl_append, ← hP.out.2]; rfl
        have HI := Lib.hid (ints_owned hown)
        have HA : Hid (Calls Tryz.prog 65 #[.slice p1 m c1, .int .i64 (y % n)] wr fun e w' => e = .returned (.bool (hasB o (y % n))) ∧ wr = w') := Lib.hid (by
          have := has_c HI.out (y % n)
          exact this)
        obtain ⟨r, hr⟩ : ∃ r, y % n = r := ⟨_, rfl⟩
        rw [hr] at z1 z2 C HA
        unfold ballotStep at hstep
        rw [hr] at hstep
        cases hb : hasB o r
        · rw [hb] at HA
          have HS : Hid ((o ++ [r]).length = m + 1 ∧ (o ++ [r]) = (l.take (k + 1)).foldl (ballotStep n) []) := Lib.hid ⟨by rw [List.length_append, hP.out.1]; rfl, by
            unfold ballotStep
            rw [hstep, if_pos ⟨by rw [hP.out.1]; exact hmn, hb⟩]⟩
          clear hy hts hstep hr hb
          go_wp2_with (first
            | (go_at_call 8; ((with_reducible refine (C.out _).mono ?_); rintro e w1 ⟨rfl, rfl⟩))
            | (go_at_call 65; ((with_reducible refine (HA.out).mono ?_); rintro e w1 ⟨rfl, rfl⟩))
            | (at_builtin; go_must (refine append_one erI rfl rfl hown rfl rfl rfl (by simp [Value.oneCell']) (by omega) (by omega) hbel.size ?_); intro v' w1 hown1 _ hb1 hne1))
          go_roundw
          case rel =>
            refine ⟨k + 1, m + 1, o ++ [r], by omega, by omega, by go_num, ?_, hbel.trans hb1, HS⟩
            rw [List.map_append]
            exact hown1
          case measure => simp [intOf] <;> omega
        · rw [hb] at HA
          have HS : Hid (o.length = m ∧ o = (l.take (k + 1)).foldl (ballotStep n) []) := Lib.hid ⟨hP.out.1, by
            unfold ballotStep
            rw [hstep, if_neg (fun g => by have := g.2; rw [hb] at this; simp at this)]⟩
          clear hy hts hstep hr hb
          go_wp2_with (first
            | (go_at_call 8; ((with_reducible refine (C.out _).mono ?_); rintro e w1 ⟨rfl, rfl⟩))
            | (go_at_call 65; ((with_reducible refine (HA.out).mono ?_); rintro e w1 ⟨rfl, rfl⟩)))
          go_roundw
          case rel => exact ⟨k + 1, m, o, by omega, hm, by go_num, hown, hbel, HS⟩
          case measure => simp [intOf] <;> omega
      · have HE : Hid (o = ballotS n l) := Lib.hid (by
          unfold ballotS
          rw [← List.take_append_drop k l, List.foldl_append, ← hP.out.2, ballot_full (by rw [hP.out.1]; exact hmn)])
        have HI := Lib.hid (ints_owned hown)
        have HF := Lib.hid (Fresh.owned hown)
        clear hown
        go_wp2_with fail
        go_ret
        exact ⟨_, rfl, by rw [← HE.out]; exact HI.out, HF.out, hbel⟩
    · have hltz : ¬ (k : Int) < (len : Int) := by omega
      have HE : Hid (o = ballotS n l) := Lib.hid (by
        unfold ballotS
        rw [hP.out.2, List.take_of_length_le (by rw [HN.out]; omega)])
      have HI := Lib.hid (ints_owned hown)
      have HF := Lib.hid (Fresh.owned hown)
      clear hown
      go_wp2_with fail
      go_ret
      exact ⟨_, rfl, by rw [← HE.out]; exact HI.out, HF.out, hbel⟩

end Go.Proofs.YtbnhgmikegdppaaGreat

/- The plain law of ties: those with the least votes, by the step and by the filter. -/
namespace Go.Proofs.Nums

/-- A strict weak order. -/
structure Swo (lt : Int → Int → Bool) : Prop where
  irr : ∀ a, lt a a = false
  asy : ∀ a b, lt a b = true → lt b a = false
  tr : ∀ a b c, lt a b = false → lt b c = false → lt a c = false
def extA (lt : Int → Int → Bool) (l : List Int) : List Int := l.filter fun c => l.all fun k => !lt k c
def exStep (lt : Int → Int → Bool) : List Int → Int → List Int
  | [], c => [c]
  | b :: t, c => if lt c b = true then [c] else if lt b c = true then b :: t else b :: t ++ [c]
theorem mem_extA {lt : Int → Int → Bool} {l : List Int} {x : Int} : x ∈ extA lt l ↔ x ∈ l ∧ ∀ k ∈ l, lt k x = false := by
  unfold extA
  simp
theorem extA_snoc0 {lt : Int → Int → Bool} (h : Swo lt) {p : List Int} (hp : p ≠ [] → extA lt p ≠ []) (c : Int) : extA lt (p ++ [c]) = exStep lt (extA lt p) c := by
  have hall : ∀ x, (p ++ [c]).all (fun k => !lt k x) = (p.all (fun k => !lt k x) && !lt c x) := fun x => by simp
  have e0 : extA lt (p ++ [c]) = (p.filter fun x => p.all (fun k => !lt k x) && !lt c x) ++ ([c].filter fun x => p.all (fun k => !lt k x) && !lt c x) := by
    unfold extA
    rw [← List.filter_append]
    simp only [hall]
  rw [e0]
  cases hE : extA lt p with
  | nil =>
    have : p = [] := Classical.byContradiction fun g => hp g hE
    subst this
    simp [exStep, h.irr]
  | cons b t =>
    have hb : b ∈ extA lt p := by rw [hE]; simp
    obtain ⟨hb1, hb2⟩ := mem_extA.1 hb
    simp only [exStep]
    by_cases h1 : lt c b = true
    · rw [if_pos h1]
      have ea : (p.filter fun x => p.all (fun k => !lt k x) && !lt c x) = [] := by
        rw [List.filter_eq_nil_iff]
        intro x hx hcon
        simp only [Bool.and_eq_true, List.all_eq_true, Bool.not_eq_true'] at hcon
        have := h.tr c x b hcon.2 (hb2 x hx)
        rw [h1] at this; simp at this
      have eb : ([c].filter fun x => p.all (fun k => !lt k x) && !lt c x) = [c] := by
        rw [List.filter_eq_self]
        intro x hx
        rw [List.mem_singleton.1 hx]
        simp only [Bool.and_eq_true, List.all_eq_true, Bool.not_eq_true']
        refine ⟨fun k hk => ?_, h.irr c⟩
        cases hk2 : lt k c with
        | false => rfl
        | true =>
          have := h.tr c k b (h.asy k c hk2) (hb2 k hk)
          rw [h1] at this; simp at this
      rw [ea, eb]; rfl
    · have h1 : lt c b = false := by cases hc : lt c b with | false => rfl | true => exact absurd hc h1
      rw [if_neg (by rw [h1]; decide)]
      have ea : (p.filter fun x => p.all (fun k => !lt k x) && !lt c x) = b :: t := by
        rw [← hE]
        unfold extA
        refine List.filter_congr fun x hx => ?_
        cases hq : p.all (fun k => !lt k x) with
        | false => rfl
        | true =>
          simp only [List.all_eq_true, Bool.not_eq_true'] at hq
          rw [h.tr c b x h1 (hq b hb1)]; rfl
      rw [ea]
      by_cases h2 : lt b c = true
      · rw [if_pos h2]
        have eb : ([c].filter fun x => p.all (fun k => !lt k x) && !lt c x) = [] := by
          rw [List.filter_eq_nil_iff]
          intro x hx hcon
          rw [List.mem_singleton.1 hx] at hcon
          simp only [Bool.and_eq_true, List.all_eq_true, Bool.not_eq_true'] at hcon
          have := hcon.1 b hb1
          rw [h2] at this; simp at this
        rw [eb, List.append_nil]
      · have h2 : lt b c = false := by cases hc : lt b c with | false => rfl | true => exact absurd hc h2
        rw [if_neg (by rw [h2]; decide)]
        have eb : ([c].filter fun x => p.all (fun k => !lt k x) && !lt c x) = [c] := by
          rw [List.filter_eq_self]
          intro x hx
          rw [List.mem_singleton.1 hx]
          simp only [Bool.and_eq_true, List.all_eq_true, Bool.not_eq_true']
          exact ⟨fun k hk => h.tr k b c (hb2 k hk) h2, h.irr c⟩
        rw [eb]
theorem exStep_ne {lt : Int → Int → Bool} {o : List Int} {c : Int} : exStep lt o c ≠ [] := by
  cases o with
  | nil => simp [exStep]
  | cons b t => simp only [exStep]; split; · simp
                split <;> simp
theorem extA_ne {lt : Int → Int → Bool} (h : Swo lt) : ∀ (n : Nat) {p : List Int}, p.length = n → p ≠ [] → extA lt p ≠ [] := by
  intro n
  induction n with
  | zero => intro p hp hne; exact absurd (List.eq_nil_of_length_eq_zero hp) hne
  | succ n ih =>
    intro p hp hne
    have e := List.dropLast_concat_getLast hne
    rw [← e, extA_snoc0 h (fun g => ih (by rw [List.length_dropLast, hp]; rfl) g)]
    exact exStep_ne
theorem extA_snoc {lt : Int → Int → Bool} (h : Swo lt) (p : List Int) (c : Int) : extA lt (p ++ [c]) = exStep lt (extA lt p) c := extA_snoc0 h (fun g => extA_ne h _ rfl g) c
theorem extA_ne' {lt : Int → Int → Bool} (h : Swo lt) {p : List Int} (hp : p ≠ []) : extA lt p ≠ [] := extA_ne h _ rfl hp
theorem extA_sub {lt : Int → Int → Bool} {p : List Int} : (extA lt p).Sublist p := List.filter_sublist

/-- a has less than b. -/
def lessQ (a b : Q) : Bool := decide (a.n * b.d < b.n * a.d)
def vote (v : List Q) (c : Int) : Q := v.getD c.toNat (Q.of 0)
def ltV (v : List Q) (least : Bool) (a b : Int) : Bool := if least then lessQ (vote v a) (vote v b) else lessQ (vote v b) (vote v a)
theorem lessQ_irr (a : Q) : lessQ a a = false := by unfold lessQ; simp
theorem lessQ_asy {a b : Q} (h : lessQ a b = true) : lessQ b a = false := by
  unfold lessQ at *
  simp only [decide_eq_true_eq, decide_eq_false_iff_not] at *
  omega
theorem lessQ_tr {a b c : Q} (hb : 0 < b.d) (h1 : lessQ a b = false) (h2 : lessQ b c = false) : lessQ a c = false := by
  unfold lessQ at *
  simp only [decide_eq_false_iff_not, Nat.not_lt] at *
  have g1 := Nat.mul_le_mul_right c.d h1
  have g2 := Nat.mul_le_mul_right a.d h2
  have : (c.n * a.d) * b.d ≤ (a.n * c.d) * b.d := by
    calc (c.n * a.d) * b.d = c.n * b.d * a.d := by rw [Nat.mul_assoc, Nat.mul_comm a.d, ← Nat.mul_assoc]
      _ ≤ b.n * c.d * a.d := g2
      _ = b.n * a.d * c.d := by rw [Nat.mul_assoc, Nat.mul_comm c.d, ← Nat.mul_assoc]
      _ ≤ a.n * b.d * c.d := g1
      _ = (a.n * c.d) * b.d := by rw [Nat.mul_assoc, Nat.mul_comm b.d, ← Nat.mul_assoc]
  exact Nat.le_of_mul_le_mul_right this hb
def Shs (v : List Q) : Prop := ∀ q ∈ v, ShQ q
theorem vote_sh {v : List Q} (h : Shs v) (c : Int) : ShQ (vote v c) := by
  unfold vote
  rw [List.getD_eq_getElem?_getD]
  cases hc : v[c.toNat]? with
  | none => exact ShQ.zero
  | some q => exact h q (List.mem_of_getElem? hc)
theorem ltV_swo {v : List Q} (h : Shs v) (least : Bool) : Swo (ltV v least) := by
  have hd : ∀ c, 0 < (vote v c).d := fun c => (vote_sh h c).1.1
  cases least
  · exact ⟨fun a => lessQ_irr _, fun a b g => lessQ_asy g, fun a b c g1 g2 => lessQ_tr (hd b) g2 g1⟩
  · exact ⟨fun a => lessQ_irr _, fun a b g => lessQ_asy g, fun a b c g1 g2 => lessQ_tr (hd b) g1 g2⟩
theorem cmpS_lt {a b : Q} (h : lessQ a b = true) : cmpS a b = -1 := by
  unfold lessQ at h
  unfold cmpS
  rw [if_pos (by simpa using h)]
theorem cmpS_gt {a b : Q} (h : lessQ b a = true) : cmpS a b = 1 := by
  have g := lessQ_asy h
  unfold lessQ at h g
  unfold cmpS
  rw [if_neg (by simpa using g), if_pos (by simpa using h)]
theorem cmpS_eq {a b : Q} (h : lessQ a b = false) (g : lessQ b a = false) : cmpS a b = 0 := by
  unfold lessQ at h g
  unfold cmpS
  rw [if_neg (by simpa using h), if_neg (by simpa using g)]
theorem ordS {v : List Q} (least : Bool) (c b : Int) : ∃ z : Int, (if least then cmpS (vote v c) (vote v b) else - cmpS (vote v c) (vote v b)) = z ∧ ((z = -1 ∧ ltV v least c b = true) ∨ (z = 1 ∧ ltV v least c b = false ∧ ltV v least b c = true) ∨ (z = 0 ∧ ltV v least c b = false ∧ ltV v least b c = false)) := by
  refine ⟨_, rfl, ?_⟩
  cases least <;> simp only [ltV]
  · cases h1 : lessQ (vote v b) (vote v c)
    · cases h2 : lessQ (vote v c) (vote v b)
      · rw [cmpS_eq h2 h1]; simp
      · rw [cmpS_lt h2]; simp
    · rw [cmpS_gt h1]; simp
  · cases h1 : lessQ (vote v c) (vote v b)
    · cases h2 : lessQ (vote v b) (vote v c)
      · rw [cmpS_eq h1 h2]; simp
      · rw [cmpS_gt h2]; simp
    · rw [cmpS_lt h1]; simp

/-- Those that are left of l behind the rounds. -/
def leftS (least : Bool) : List (List Q) → List Int → List Int
  | [], l => l
  | v :: vs, l => leftS least vs (if 1 < l.length then extA (ltV v least) l else l)
theorem leftS_one (least : Bool) (vs : List (List Q)) {l : List Int} (h : ¬ 1 < l.length) : leftS least vs l = l := by
  induction vs with
  | nil => rfl
  | cons v vs ih => simp only [leftS, if_neg h]; exact ih
theorem leftS_app (least : Bool) (vs ws : List (List Q)) (l : List Int) : leftS least (vs ++ ws) l = leftS least ws (leftS least vs l) := by
  induction vs generalizing l with
  | nil => rfl
  | cons v vs ih => simp only [List.cons_append, leftS]; exact ih _
theorem leftS_sub (least : Bool) (vs : List (List Q)) (l : List Int) : (leftS least vs l).Sublist l := by
  induction vs generalizing l with
  | nil => exact List.Sublist.refl _
  | cons v vs ih =>
    simp only [leftS]
    refine (ih _).trans ?_
    split
    · exact extA_sub
    · exact List.Sublist.refl _
theorem leftS_ne (least : Bool) {vs : List (List Q)} (hs : ∀ v ∈ vs, Shs v) {l : List Int} (h : l ≠ []) : leftS least vs l ≠ [] := by
  induction vs generalizing l with
  | nil => exact h
  | cons v vs ih =>
    simp only [leftS]
    refine ih (fun v hv => hs v (by simp [hv])) ?_
    split
    · exact extA_ne' (ltV_swo (hs v (by simp)) least) h
    · exact h
/-- The rounds in the order in which they are examined. -/
def roundsS (rule : Int) (L : List (List Q)) : List (List Q) := if rule = 3 then [] else if rule = 1 then L.reverse else L
/-- By lot: the greatest place if the least is wanted, the least place otherwise. -/
def pickStep (lots : List Int) (least : Bool) (b x : Int) : Int := if decide (placeN lots b < placeN lots x) = least then x else b
def pickS (lots : List Int) (least : Bool) (l : List Int) : Int := l.tail.foldl (pickStep lots least) (l.headD 0)
def validS (rule : Int) (tied lots : List Int) : Bool :=
  decide (1 ≤ rule ∧ rule ≤ 3 ∧ 1 ≤ lots.length ∧ lots.length ≤ 7 ∧ (∀ c ∈ lots, 0 ≤ c ∧ c < (lots.length : Int)) ∧ lots.Nodup ∧ tied ≠ [] ∧ (∀ c ∈ tied, 0 ≤ c ∧ c < (lots.length : Int)) ∧ tied.Pairwise (· < ·))
def breakS (rule : Int) (L : List (List Q)) (tied lots : List Int) (least : Bool) : Int × Bool :=
  if validS rule tied lots = true then
    (let l := leftS least (roundsS rule L) tied
     if l.length = 1 then (l.headD 0, false) else (pickS lots least l, true))
  else (-1, false)

end Go.Proofs.Nums
