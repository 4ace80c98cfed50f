import Derived.Test.YthdcgplocdehjaaSf
/- The parser: block; what its walk needs. -/
namespace Go.Proofs.Ythdcgplocdehjaa
open Go.RowKit Go.Proofs.Kit

theorem comS_mono (T : List Tok) : ∀ (f : Nat) (s : St), s.i ≤ (comS T f s).i := by
  intro f
  induction f with
  | zero => intro s; exact Nat.le_refl _
  | succ f ih =>
    intro s
    unfold comS
    split
    · exact Nat.le_trans (takeS_mono _ _ _ _) (Nat.le_trans (valS_mono _ _) (ih _))
    · exact Nat.le_refl _
theorem fldS_more {T : List Tok} {s : St} (h : isP T s 1 [] = true) : s.i + 1 ≤ (fldS T s).i := by
  have e : (needS T s 1 []).i = s.i + 1 := by rw [needS_yes h]; unfold nextP; rw [if_neg (by decide)]
  unfold fldS
  have h1 := valS_mono T (needS T s 1 [])
  have h2 := comS_mono T T.length (valS T (needS T s 1 []))
  have h3 := needS_mono T (comS T T.length (valS T (needS T s 1 []))) 4 [59]
  omega
def fsT (T : List Tok) : Nat → St → List Fld
  | 0, _ => []
  | f + 1, s => if isP T s 1 [] then fldT T s :: fsT T f (fldS T s) else []
def fsS (T : List Tok) : Nat → St → St
  | 0, s => s
  | f + 1, s => if isP T s 1 [] then fsS T f (fldS T s) else s
theorem fsT_no {T : List Tok} {f : Nat} {s : St} (h : isP T s 1 [] = false) : fsT T f s = [] ∧ fsS T f s = s := by
  cases f with
  | zero => exact ⟨rfl, rfl⟩
  | succ f => unfold fsT fsS; rw [if_neg (by rw [h]; simp), if_neg (by rw [h]; simp)]; exact ⟨rfl, rfl⟩
theorem fsT_yes {T : List Tok} {f : Nat} {s : St} (h : isP T s 1 [] = true) : fsT T (f + 1) s = fldT T s :: fsT T f (fldS T s) ∧ fsS T (f + 1) s = fsS T f (fldS T s) := by
  refine ⟨?_, ?_⟩
  · conv => lhs; unfold fsT
    rw [if_pos h]
  · conv => lhs; unfold fsS
    rw [if_pos h]
/-- kind, name, fields, line. -/
abbrev BlkP := List UInt8 × List UInt8 × List Fld × Nat
def blk3 (T : List Tok) (s : St) : St := needS T (takeS T (needS T s 1 []) 1 []) 4 [123]
def blkT (T : List Tok) (s : St) : BlkP := ((takeT T s 1 []).2.1, (takeT T (needS T s 1 []) 1 []).2.1, fsT T T.length (blk3 T s), (takeT T s 1 []).2.2)
def blkS (T : List Tok) (s : St) : St := needS T (fsS T T.length (blk3 T s)) 4 [125]

/-- The three cells of a field. -/
def fldR (w : World) (c : List Value) (f : Fld) : Prop := ∃ u, c = [strV f.1, u, .int .i64 f.2.2] ∧ RowAt w u (f.2.1.map strV)
theorem erF : ElemRow Try.prog 37 42 (.agg #[.string ⟨#[]⟩, .slice none 0 0, .int .i64 0]) 3 48 := ⟨Try.underlying37, by kernel_rfl, rfl, by decide⟩
theorem Lst.upd {α : Type} {R : World → List Value → α → Prop} {B b0 base k : Nat} {e : TypeId} {w w' : World} {v : Value} {l : List α} {css : List (List Value)} (h : Lst R b0 base e k v w l css) (hu : Upd B w w') (h1 : B < b0) (h2 : B < base) : Lst R b0 base e k v w' l css :=
  ⟨ownsRow_upd h.own hu h2, h.len, h.siz, fun i c x hi hx => On.mono (On.step (h.elt i c x hi hx) fun b hb => hu.heap b hb.2.1 (by omega)) fun _ hb => ⟨hb.1, Nat.lt_of_lt_of_le hb.2.1 hu.below.size, hb.2.2⟩⟩
theorem Lst.set_ {α : Type} {R : World → List Value → α → Prop} {b0 base k F o : Nat} {e : TypeId} {w : World} {v x : Value} {l : List α} {css : List (List Value)} (h : Lst R b0 base e k v w l css) (h1 : F < b0) (h2 : F < base) : Lst R b0 base e k v (w.setCell ⟨F, o, none⟩ x) l css :=
  ⟨ownsRow_setCell_below h.own (a := ⟨F, o, none⟩) h2 x, h.len, h.siz, fun i c y hi hy => On.mono (On.step (h.elt i c y hi hy) fun b hb => Below.heap_setCell _ ⟨F, o, none⟩ x b (by show b ≠ F; omega)) fun _ hb => ⟨hb.1, by simpa using hb.2.1, hb.2.2⟩⟩
theorem Lst.down {α : Type} {R : World → List Value → α → Prop} {b0 b1 k : Nat} {e : TypeId} {w : World} {v : Value} {l : List α} {css : List (List Value)} (h : Lst R b0 b0 e k v w l css) (hb : b1 ≤ b0) : Lst R b1 b1 e k v w l css :=
  ⟨⟨h.own.1, by
    rcases h.own.2 with hn | ⟨g, cap, cur, e, hg, rest⟩
    · exact .inl hn
    · exact .inr ⟨g, cap, cur, e, Nat.le_trans hb hg, rest⟩⟩, h.len, h.siz, fun i c x hi hx => On.mono (h.elt i c x hi hx) fun _ hb' => ⟨Nat.le_trans hb hb'.1, hb'.2⟩⟩
theorem fresh_elt' {α : Type} {R : World → List Value → α → Prop} {B base k : Nat} {e : TypeId} {w w1 : World} {v : Value} {l : List α} {css : List (List Value)} {S : World → Prop} (hL : Lst R B base e k v w l css) (hm : Made w.heap.size S w1) (hB : B ≤ w.heap.size) : On (fun b => B ≤ b ∧ b < w1.heap.size ∧ v.ownBlock ≠ some b) S w1 :=
  On.mono (hm.off (o := v.ownBlock) fun g hg => (hL.lt g hg).2) fun _ hb => ⟨Nat.le_trans hB hb.1, hb.2⟩
def blkZ : Array Value := #[.string ⟨#[]⟩, .string ⟨#[]⟩, .slice none 0 0, .int .i64 0]
/-- A block under construction in block F; block R is for the result. -/
def QB (R F b0 : Nat) (S N : ByteArray) (l : Nat) (u : Value) (fs : List Fld) (css : List (List Value)) (W : World) : Prop := Bk R blkZ W ∧ Bk F #[.string S, .string N, u, .int .i64 l] W ∧ Lst fldR b0 b0 42 3 u W fs css
theorem QB.st {B R F b0 : Nat} {S N : ByteArray} {l : Nat} {u : Value} {fs : List Fld} {css : List (List Value)} (h1 : R ≠ B) (h2 : F ≠ B) (h3 : B < b0) : ∀ W W', Upd B W W' → QB R F b0 S N l u fs css W → QB R F b0 S N l u fs css W' :=
  fun _ _ hu k => ⟨k.1.upd hu h1, k.2.1.upd hu h2, Lst.upd k.2.2 hu h3 h3⟩
theorem QB.grow {B g n cap R F b0 : Nat} {T : List Tok} {s : St} {w W W' W2 : World} {S N : ByteArray} {l : Nat} {u v' : Value} {fs : List Fld} {css : List (List Value)} {y : Fld} {c : List Value} (h : Kn B g n cap T s w (QB R F b0 S N l u fs css) W) (hR : R ≠ B) (hF : F ≠ B) (hB : B < w.heap.size) (hRF : R ≠ F) (hF2 : w.heap.size ≤ F) (hgw : g < w.heap.size) (hRb : R < b0) (hFb : F < b0)
    (hL : Lst fldR b0 b0 42 3 v' W' (fs ++ [y]) (css ++ [c])) (hb : Below b0 W W') (e : W2 = W'.setCell ⟨F, 2, none⟩ v') :
    Kn B g n cap T s w (QB R F b0 S N l v' (fs ++ [y]) (css ++ [c])) W2 := by
  subst e
  obtain ⟨hq1, hq2, hq3⟩ := h.q
  have hsz := hb.size
  have kB : W'.heap[B]? = W.heap[B]? := hb.block B (by omega)
  have kg : W'.heap[g]? = W.heap[g]? := hb.block g (by omega)
  have kR : W'.heap[R]? = W.heap[R]? := hb.block R hRb
  have kF : W'.heap[F]? = W.heap[F]? := hb.block F hFb
  have hp : Prs B g n cap T s W' := h.p.same kB kg hsz
  have hu : Upd B w W' := ⟨fun k hk hne => (hb.block k (by omega)).trans (h.u.heap k hk hne), h.u.below.trans (hb.mono (by omega))⟩
  have hF' : Bk F #[.string S, .string N, u, .int .i64 l] W' := hq2.same kF hsz
  exact ⟨hp.off hF (fun hh => by omega), ⟨(hq1.same kR hsz).same (Below.heap_setCell _ ⟨F, 2, none⟩ _ R hRF) (by simp), hF'.put (o := 2) (by simp) v', Lst.set_ hL hFb hFb⟩, hu.off hF2 (by omega), QB.st hR hF (by omega)⟩
theorem QB.after {R F b0 : Nat} {S N : ByteArray} {l : Nat} {u : Value} {fs : List Fld} {css : List (List Value)} {W W' : World} (hq : QB R F b0 S N l u fs css W) (hb : Below b0 W W') (hFb : F < b0) : Bk F #[.string S, .string N, u, .int .i64 l] W' :=
  hq.2.1.same (hb.block F hFb) hb.size
theorem Bk.four {b : Nat} {x y z t : Value} {w : World} (h : Bk b #[x, y, z, t] w) : w.cell? ⟨b, 0, none⟩ = some x ∧ w.cell? ⟨b, 1, none⟩ = some y ∧ w.cell? ⟨b, 2, none⟩ = some z ∧ w.cell? ⟨b, 3, none⟩ = some t := ⟨h.2.1 0, h.2.1 1, h.2.1 2, h.2.1 3⟩
theorem Bk.free4 {b : Nat} {cs : Array Value} {w : World} (h : Bk b cs w) : w.frozen? ⟨b, 0, none⟩ = false ∧ w.frozen? ⟨b, 1, none⟩ = false ∧ w.frozen? ⟨b, 2, none⟩ = false ∧ w.frozen? ⟨b, 3, none⟩ = false := ⟨h.2.2 0, h.2.2 1, h.2.2 2, h.2.2 3⟩
/-- field, with the shape of its row and what it is read off. -/
theorem field_v {B g n cap : Nat} {T : List Tok} {s : St} {w : World} (hT : TOk T) (h : Prs B g n cap T s w) {S : ByteArray} (hS : strV (fldT T s).1 = .string S) {l : Nat} (hl : (fldT T s).2.2 = l) :
    Calls Try.prog 37 #[.pointer (some ⟨B, 0, none⟩)] w fun e w' => ∃ p m c, e = .returned (.agg #[.string S, .slice p m c, .int .i64 l]) ∧ Hid (Made w.heap.size (fun W => fldR W [.string S, .slice p m c, .int .i64 l] (fldT T s)) w') ∧ Prs B g n cap T (fldS T s) w' ∧ Upd B w w' :=
  (field_c hT h).mono (by
    rintro e w' ⟨u, rfl, ho, hp, hu⟩
    obtain ⟨p, m, c, rfl⟩ := own_sl ho
    refine ⟨p, m, c, by rw [hS, hl], Lib.hid ?_, hp, hu⟩
    exact (RowAt.made (RowAt.owned ho) fun b hb => (ho.lt b hb).1).imp fun W g' => ⟨_, by rw [hS, hl], g'⟩)

end Go.Proofs.Ythdcgplocdehjaa

/- The parser: block, its walk. -/
namespace Go.Proofs.Ythdcgplocdehjaa
open Go.RowKit Go.Proofs.Kit

set_option maxRecDepth 100000 in
set_option maxHeartbeats 8000000 in
theorem block_c {B g n cap : Nat} {T : List Tok} {s : St} {w : World} (hT : TOk T) (h : Prs B g n cap T s w) :
    Calls Try.prog 20 #[.pointer (some ⟨B, 0, none⟩)] w fun e w' => ∃ p m c, e = .returned (.agg #[strV (blkT T s).1, strV (blkT T s).2.1, .slice p m c, .int .i64 (blkT T s).2.2.2]) ∧ (∃ css, Lst fldR w.heap.size w.heap.size 42 3 (.slice p m c) w' (blkT T s).2.2.1 css) ∧ Prs B g n cap T (blkS T s) w' ∧ Upd B w w' := by
  have hBw : B < w.heap.size := h.blk.1
  have hBd : Below w.heap.size w (w.alloc (.cells #[.string ⟨#[]⟩, .string ⟨#[]⟩, .slice none 0 0, .int .i64 0] 39)) := (Below.refl _ _).alloc (Nat.le_refl _) _
  have R0 := Lib.hid (Bk.new w #[.string ⟨#[]⟩, .string ⟨#[]⟩, .slice none 0 0, .int .i64 0] 39)
  have h0 := h.keep hBd
  have hg := h.glt
  have hTl := h.len
  have hTn := hT.num
  have HTL := Lib.hid hTl
  obtain ⟨W, hW⟩ : ∃ W, w.alloc (.cells #[.string ⟨#[]⟩, .string ⟨#[]⟩, .slice none 0 0, .int .i64 0] 39) = W := ⟨_, rfl⟩
  rw [hW] at hBd R0 h0
  have HW := Lib.hid hW
  have hs0 := R0.out.1
  have K0 := Lib.hid (show Kn B g n cap T s w (Bk w.heap.size blkZ) W from ⟨h0, R0.out, Upd.of hBd (by omega), bk_st (by omega)⟩)
  -- kind
  obtain ⟨S1, hS1⟩ : ∃ S : ByteArray, (⟨(takeT T s 1 []).2.1.toArray⟩ : ByteArray) = S := ⟨_, rfl⟩
  obtain ⟨l1, hl1⟩ : ∃ l, (takeT T s 1 []).2.2 = l := ⟨_, rfl⟩
  have NA := need_c hT h0 1 ⟨#[]⟩
  rw [Lib.toList_data, show (⟨#[]⟩ : ByteArray).data.toList = [] from rfl, tokV_eq _ rfl hS1 hl1] at NA
  obtain ⟨k1, hk1⟩ : ∃ k, (takeT T s 1 []).1 = k := ⟨_, rfl⟩
  obtain ⟨s1, hs1⟩ : ∃ x, needS T s 1 [] = x := ⟨_, rfl⟩
  rw [hk1, hs1] at NA
  have NA := Lib.hid NA
  -- name
  obtain ⟨b2, hb2⟩ : ∃ b, isP T s1 1 [] = b := ⟨_, rfl⟩
  obtain ⟨S2, hS2⟩ : ∃ S : ByteArray, (⟨(takeT T s1 1 []).2.1.toArray⟩ : ByteArray) = S := ⟨_, rfl⟩
  have TB := Lib.hid (fun w' (g' : Prs B g n cap T s1 w') => take_v hT g' 1 ⟨#[]⟩ hb2 hS2)
  rw [show (⟨#[]⟩ : ByteArray).data.toList = [] from rfl] at TB
  obtain ⟨s2, hs2⟩ : ∃ x, takeS T s1 1 [] = x := ⟨_, rfl⟩
  rw [hs2] at TB
  obtain ⟨S3, hS3⟩ : ∃ S : ByteArray, (⟨(takeT T s2 4 [123]).2.1.toArray⟩ : ByteArray) = S := ⟨_, rfl⟩
  have NC := Lib.hid (fun w' (g' : Prs B g n cap T s2 w') => need_v hT g' 4 ⟨#[123]⟩ hS3)
  obtain ⟨s3, hs3⟩ : ∃ x, needS T s2 4 [123] = x := ⟨_, rfl⟩
  rw [show (⟨#[123]⟩ : ByteArray).data.toList = [123] from rfl, hs3] at NC
  have HB : Hid (blkT T s = ((takeT T s 1 []).2.1, (takeT T s1 1 []).2.1, fsT T T.length s3, l1)) := Lib.hid (by unfold blkT blk3; rw [hs1, hs2, hs3, hl1])
  have HBS : Hid (blkS T s = needS T (fsS T T.length s3) 4 [125]) := Lib.hid (by unfold blkS blk3; rw [hs1, hs2, hs3])
  have HK : Hid (strV (takeT T s 1 []).2.1 = .string S1) := Lib.hid (by unfold strV; rw [hS1])
  have HN : Hid (strV (takeT T s1 1 []).2.1 = .string S2) := Lib.hid (by unfold strV; rw [hS2])
  rw [HB.out, HBS.out]
  simp only
  rw [HK.out, HN.out]
  clear hW hS1 hl1 hk1 hs1 hb2 hS2 hs2 hS3 hs3 h0
  go_enter Try.func20, Try.ntmps20
  go_upto_region 1 with fail
  rw [HW.out]
  go_upto_region 2 with (go_at_call 18; ((with_reducible refine (NA.out).mono ?_); rintro e w1 ⟨rfl, hP1, hu1⟩; have K1 := Lib.hid (K0.out.step hu1 hP1)))
  have N1 := Lib.hid (Bk.new w1 #[.int .i64 k1, .string S1, .int .i64 l1] 47)
  have K2 := Lib.hid ((K1.out.alloc (.cells #[.int .i64 k1, .string S1, .int .i64 l1] 47)).with_ (R := Bk w1.heap.size #[.int .i64 k1, .string S1, .int .i64 l1]) N1.out (bk_st (by have := K1.out.u.below.size; omega)))
  have hw1 := K1.out.u.below.size
  revert K2
  clear N1
  generalize w1.alloc (.cells #[.int .i64 k1, .string S1, .int .i64 l1] 47) = X
  intro K2
  obtain ⟨k2, l2, TB1⟩ := TB.out _ K2.out.p
  have TB1 := Lib.hid TB1
  go_upto_region 3 with (go_at_call 35; ((with_reducible refine (TB1.out).mono ?_); rintro e w3 ⟨rfl, hP3, hu3⟩; have K3 := Lib.hid (K2.out.step hu3 hP3)))
  have hw3 := K3.out.u.below.size
  have N3 := Lib.hid (Bk.new w3 #[.int .i64 k2, .string S2, .int .i64 l2] 47)
  have K4 := Lib.hid ((K3.out.alloc (.cells #[.int .i64 k2, .string S2, .int .i64 l2] 47)).with_ (R := Bk w3.heap.size #[.int .i64 k2, .string S2, .int .i64 l2]) N3.out (bk_st (by omega)))
  revert K4
  clear N3
  generalize w3.alloc (.cells #[.int .i64 k2, .string S2, .int .i64 l2] 47) = Y
  intro K4
  have hY1 := K4.out.q.2.1
  obtain ⟨a0, a1, a2⟩ := K4.out.q.1.2.three
  obtain ⟨b0, b1, b2⟩ := K4.out.q.2.three
  have K5 := Lib.hid ((K4.out.alloc (.cells #[.string S1, .string S2, .slice none 0 0, .int .i64 l1] 39)).with_ (R := Bk Y.heap.size #[.string S1, .string S2, .slice none 0 0, .int .i64 l1]) (Bk.new Y #[.string S1, .string S2, .slice none 0 0, .int .i64 l1] 39) (bk_st (by omega)))
  have K6 := Lib.hid (K5.out.weak (R := fun W => Bk w.heap.size blkZ W ∧ Bk Y.heap.size #[.string S1, .string S2, .slice none 0 0, .int .i64 l1] W) (fun q => ⟨q.1.1.1, q.2⟩) (fun _ _ hu k => ⟨k.1.upd hu (by omega), k.2.upd hu (by omega)⟩))
  obtain ⟨k3, l3, NC1⟩ := NC.out _ K6.out.p
  have NC1 := Lib.hid NC1
  go_wp2_with (go_at_call 18; ((with_reducible refine (NC1.out).mono ?_); rintro e w5 ⟨rfl, hP5, hu5⟩; have K7 := Lib.hid (K6.out.step hu5 hP5)))
  have hF5 := K7.out.q.2.1
  have K8 := Lib.hid (show Kn B g n cap T s3 w (QB w.heap.size Y.heap.size w5.heap.size S1 S2 l1 (.slice none 0 0) [] []) w5 from ⟨K7.out.p, ⟨K7.out.q.1, K7.out.q.2, Lst.nil w5⟩, K7.out.u, QB.st (by omega) (by omega) (by omega)⟩)
  go_loopw [24] (fun _ wr => ∃ fu : Nat, ∃ sx : St, ∃ fs : List Fld, ∃ css u, fs.length + fu = n ∧ n ≤ fu + sx.i ∧ Hid (w5.heap.size ≤ wr.heap.size) ∧ Hid (Kn B g n cap T sx w (QB w.heap.size Y.heap.size w5.heap.size S1 S2 l1 u fs css) wr) ∧ Hid (fsT T T.length s3 = fs ++ fsT T fu sx) ∧ Hid (fsS T T.length s3 = fsS T fu sx)) (fun _ wr => remN B wr)
  case atStart => exact ⟨n, s3, [], [], _, by simp, by omega, Lib.hid (Nat.le_refl _), Lib.hid K8.out, Lib.hid (by rw [HTL.out]; rfl), Lib.hid (by rw [HTL.out])⟩
  case round =>
    obtain ⟨fu, sx, fs, css, u, hv1, hv2, KW5, hKx, hcT, hcS⟩ := hrel
    have hsi := hKx.out.p.i
    obtain ⟨pu, nu, cu, eu⟩ := own_sl hKx.out.q.2.2.own
    subst eu
    obtain ⟨b, hb⟩ : ∃ b, isP T sx 1 [] = b := ⟨_, rfl⟩
    have IS := is_c hKx.out.p 1 ⟨#[]⟩
    rw [Lib.toList_data, show (⟨#[]⟩ : ByteArray).data.toList = [] from rfl, hb] at IS
    have IS := Lib.hid IS
    have hBr := hKx.out.le
    cases b
    · obtain ⟨e1, e2⟩ := fsT_no (f := fu) hb
      have HE1 : Hid (fsT T T.length s3 = fs) := Lib.hid (by rw [hcT.out, e1, List.append_nil])
      have HE2 : Hid (fsS T T.length s3 = sx) := Lib.hid (by rw [hcS.out, e2])
      obtain ⟨S5, hS5⟩ : ∃ S : ByteArray, (⟨(takeT T sx 4 [125]).2.1.toArray⟩ : ByteArray) = S := ⟨_, rfl⟩
      have NE := Lib.hid (fun w' (g' : Prs B g n cap T sx w') => need_v hT g' 4 ⟨#[125]⟩ hS5)
      rw [show (⟨#[125]⟩ : ByteArray).data.toList = [125] from rfl] at NE
      clear hb e1 e2 hS5
      obtain ⟨wo, rfl⟩ : ∃ x, x = wr := ⟨_, rfl⟩
      go_wp2_with (go_at_call 19; ((with_reducible refine (IS.out).mono ?_); rintro e w6 ⟨rfl, hb6⟩; have K9 := Lib.hid (hKx.out.step (Upd.of hb6 hBr) (hKx.out.p.keep hb6))))
      obtain ⟨k5, l5, NE1⟩ := NE.out _ K9.out.p
      have NE1 := Lib.hid NE1
      go_wp2_with (go_at_call 18; ((with_reducible refine (NE1.out).mono ?_); rintro e w7 ⟨rfl, hP7, hu7⟩; have KE := Lib.hid (K9.out.step hu7 hP7); obtain ⟨c0, c1, c2, c3⟩ := KE.out.q.2.1.four; obtain ⟨r0, r1, r2, r3⟩ := (show Bk w.heap.size #[.string ⟨#[]⟩, .string ⟨#[]⟩, .slice none 0 0, .int .i64 0] w7 from KE.out.q.1).four; obtain ⟨f0, f1, f2, f3⟩ := KE.out.q.1.free4))
      refine bodyPost_ret (v := .agg #[.string S1, .string S2, .slice pu nu cu, .int .i64 l1]) (by simp [results, Try.results20, go_sem, r0, r1, r2, r3]) rfl ?_
      have hu9 := (((KE.out.u.off (b := w.heap.size) (o := 0) (v := .string S1) (Nat.le_refl _) (by omega)).off (b := w.heap.size) (o := 1) (v := .string S2) (Nat.le_refl _) (by omega)).off (b := w.heap.size) (o := 2) (v := .slice pu nu cu) (Nat.le_refl _) (by omega)).off (b := w.heap.size) (o := 3) (v := .int .i64 l1) (Nat.le_refl _) (by omega)
      have hp9 := (((hP7.off (b := w.heap.size) (o := 0) (v := .string S1) (by omega) (by omega)).off (b := w.heap.size) (o := 1) (v := .string S2) (by omega) (by omega)).off (b := w.heap.size) (o := 2) (v := .slice pu nu cu) (by omega) (by omega)).off (b := w.heap.size) (o := 3) (v := .int .i64 l1) (by omega) (by omega)
      have hl9 := Lst.set_ (F := w.heap.size) (o := 3) (x := .int .i64 l1) (Lst.set_ (F := w.heap.size) (o := 2) (x := .slice pu nu cu) (Lst.set_ (F := w.heap.size) (o := 1) (x := .string S2) (Lst.set_ (F := w.heap.size) (o := 0) (x := .string S1) KE.out.q.2.2 (by omega) (by omega)) (by omega) (by omega)) (by omega) (by omega)) (by omega) (by omega)
      exact ⟨_, _, _, rfl, ⟨_, by rw [HE1.out]; exact Lst.down hl9 (by omega)⟩, by rw [HE2.out]; exact hp9, hu9⟩
    · obtain ⟨fu, rfl⟩ : ∃ f, fu = f + 1 := ⟨fu - 1, by omega⟩
      obtain ⟨e1, e2⟩ := fsT_yes (f := fu) hb
      have hmore := fldS_more hb
      obtain ⟨sz, hsz⟩ : ∃ x, fldS T sx = x := ⟨_, rfl⟩
      obtain ⟨y, hy⟩ : ∃ x, fldT T sx = x := ⟨_, rfl⟩
      obtain ⟨SY, hSY⟩ : ∃ S : ByteArray, strV (fldT T sx).1 = .string S := ⟨_, rfl⟩
      obtain ⟨ly, hly⟩ : ∃ l, (fldT T sx).2.2 = l := ⟨_, rfl⟩
      have FV := Lib.hid (fun w' (g' : Prs B g n cap T sx w') => field_v hT g' hSY hly)
      rw [hsz, hy] at FV
      rw [hsz] at e1 e2 hmore
      rw [hy] at e1
      have HE1 : Hid (fsT T T.length s3 = (fs ++ [y]) ++ fsT T fu sz) := Lib.hid (by rw [hcT.out, e1, List.append_assoc]; rfl)
      have HE2 : Hid (fsS T T.length s3 = fsS T fu sz) := Lib.hid (by rw [hcS.out, e2])
      have hrem := remN_prs hKx.out.p
      clear hb e1 e2 hsz hy hSY hly
      obtain ⟨wo, rfl⟩ : ∃ x, x = wr := ⟨_, rfl⟩
      go_wp2_with (go_at_call 19; ((with_reducible refine (IS.out).mono ?_); rintro e w6 ⟨rfl, hb6⟩; have K9 := Lib.hid (hKx.out.step (Upd.of hb6 hBr) (hKx.out.p.keep hb6))))
      have KD := Lib.hid K9.out.drew
      have hbD : w5.heap.size ≤ w6.drew.heap.size := Nat.le_trans (Nat.le_of_eq rfl) (by have := KW5.out; exact Nat.le_trans this (Nat.le_trans hb6.size (Nat.le_of_eq rfl)))
      obtain ⟨a0, a1, a2, a3⟩ := KD.out.q.2.1.four
      go_region_law (first
        | (refine step_append_lst erF (by rfl) (by rfl) KB.out.q.2.2 (by rfl) (by rfl) (c := [.string SY, .slice p8 m8 c8, .int .i64 ly]) (fun j u h => alloc_cell _ _ _ _ j u (by simpa using h)) (by rfl) (by simp [Value.oneCell']) (by omega) (by omega) hle8 (y := y) HEl.out ?_; intro v9 w9 hL9 hb9 hg9 hv9; have KG := Lib.hid (QB.grow KB.out (by omega) (by omega) hBw (by omega) (by omega) hg (by omega) (by omega) hL9 hb9 rfl); obtain ⟨x0, x1, x2, x3⟩ := (QB.after KB.out.q hb9 (by omega)).four; obtain ⟨y0, y1, y2, y3⟩ := (QB.after KB.out.q hb9 (by omega)).free4; obtain ⟨p9, n9, c9, e9⟩ := own_sl hL9.own; subst e9)
        | (go_simp; go_wp2_with (go_at_call 37; ((with_reducible refine (FV.out _ KD.out.p).mono ?_); rintro e w8 ⟨p8, m8, c8, rfl, hM8, hP8, hu8⟩; have KA := Lib.hid (KD.out.step hu8 hP8); have KB := Lib.hid (KA.out.alloc (.cells #[.string SY, .slice p8 m8 c8, .int .i64 ly] 42)); have hle8 : w5.heap.size ≤ (w8.alloc (.cells #[.string SY, .slice p8 m8 c8, .int .i64 ly] 42)).heap.size := Nat.le_trans hbD (Nat.le_trans hu8.below.size (by simp)); have HEl := Lib.hid (fresh_elt' KD.out.q.2.2 (hM8.out.keep ((Below.refl w8.heap.size w8).alloc (Nat.le_refl _) (.cells #[.string SY, .slice p8 m8 c8, .int .i64 ly] 42))) hbD); obtain ⟨b0, b1, b2, b3⟩ := KA.out.q.2.1.four; obtain ⟨c0, c1, c2, c3⟩ := KB.out.q.2.1.four))))
      all_goals
        go_wp2_with fail
        exact ⟨⟨fu, sz, fs ++ [y], _, _, by rw [List.length_append, List.length_singleton]; omega, by omega, Lib.hid (by have := hb9.size; simp only [World.size_setCell]; exact Nat.le_trans hle8 this), Lib.hid KG.out, HE1, HE2⟩, by rw [remN_prs KG.out.p, hrem]; have := KG.out.p.i; omega⟩

end Go.Proofs.Ythdcgplocdehjaa

/- The lexer's tokens are what the parser asks; the row of tokens. -/
namespace Go.Proofs.Ythdcgplocdehjaa
open Go.RowKit Go.Proofs.Kit

theorem strL_txt : ∀ (m : Nat) (l t : List UInt8) (n : Nat), l.length ≤ m → strL l = some (t, n) → t.length ≤ l.length := by
  intro m
  induction m with
  | zero => intro l t n hl h; cases l with
    | nil => simp [strL] at h
    | cons a r => simp at hl
  | succ m ih =>
    intro l t n hl h
    cases l with
    | nil => simp [strL] at h
    | cons c r =>
      unfold strL at h
      split at h
      · simp at h; rw [h.1]; simp
      · split at h
        · cases r with
          | nil => simp at h
          | cons d r' =>
            simp only [] at h
            split at h
            · cases hs : strL r' with
              | none => rw [hs] at h; simp at h
              | some x =>
                rw [hs] at h; simp at h
                have := ih r' x.1 x.2 (by simp at hl; omega) hs
                rw [← h.1]; simp; omega
            · simp at h
        · split at h
          · cases hs : strL r with
            | none => rw [hs] at h; simp at h
            | some x =>
              rw [hs] at h; simp at h
              have := ih r x.1 x.2 (by simp at hl; omega) hs
              rw [← h.1]; simp; omega
          · simp at h
theorem nextL_txt {l t : List UInt8} {k : Int} {n : Nat} (h : nextL l = some (k, t, n)) : t.length ≤ l.length ∧ k ≠ 5 := by
  unfold nextL at h
  split at h
  · simp at h; rw [← h.2.1, ← h.1]; exact ⟨by simp; omega, by decide⟩
  · split at h
    · simp at h; rw [← h.2.1, ← h.1]; exact ⟨by simp; omega, by decide⟩
    · split at h
      · simp at h
      · split at h
        · rename_i c r _ _ _
          cases hs : strL r with
          | none => rw [hs] at h; simp at h
          | some x =>
            rw [hs] at h; simp at h
            have := strL_txt _ r x.1 x.2 (Nat.le_refl _) hs
            rw [← h.2.1, ← h.1]; exact ⟨by simp; omega, by decide⟩
        · split at h
          · simp at h; rw [← h.2.1, ← h.1]; exact ⟨by simp, by decide⟩
          · simp at h
/-- What the lexer hands back, from a line on. -/
structure LexOk (line : Nat) (l : List UInt8) (T : List Tok) : Prop where
  pos : 0 < T.length
  num : T.length ≤ l.length + 1
  last : ∀ i, i < T.length → (tk T i).1 ≠ 5 → i + 1 < T.length
  line : ∀ i, i < T.length → line ≤ (tk T i).2.2 ∧ (tk T i).2.2 ≤ line + l.length
  size : ∀ i, i < T.length → (tk T i).2.1.length ≤ l.length
theorem lexL_ok : ∀ (f line : Nat) (l : List UInt8) (T : List Tok), lexL f line l = .ok T → LexOk line l T := by
  intro f
  induction f with
  | zero => intro line l T h; simp [lexL] at h
  | succ f ih =>
    intro line l T h
    have hsk := skipF_le false l
    have hcnt : (l.take (skipF false l)).count 10 ≤ skipF false l := Nat.le_trans List.count_le_length (by rw [List.length_take]; omega)
    unfold lexL at h
    split at h
    · have e : T = [(5, [], line + (l.take (skipF false l)).count 10)] := by simpa using h.symm
      subst e
      refine ⟨by simp, by simp, fun i hi hk => ?_, fun i hi => ?_, fun i hi => ?_⟩
      · have : i = 0 := by simpa using hi
        subst this
        exact absurd rfl hk
      · have : i = 0 := by simpa using hi
        subst this
        show line ≤ line + _ ∧ line + _ ≤ line + l.length
        omega
      · have : i = 0 := by simpa using hi
        subst this
        show 0 ≤ l.length
        omega
    · split at h
      · simp at h
      · rename_i k t n hn
        obtain ⟨h1, h2⟩ := nextL_len hn
        obtain ⟨h3, h4⟩ := nextL_txt hn
        rw [List.length_drop] at h2 h3
        cases hr : lexL f (line + (l.take (skipF false l)).count 10) ((l.drop (skipF false l)).drop n) with
        | error x => rw [hr] at h; simp [Except.map] at h
        | ok r =>
          rw [hr] at h
          have e : T = (k, t, line + (l.take (skipF false l)).count 10) :: r := by simpa [Except.map] using h.symm
          have g := ih _ _ _ hr
          subst e
          have hl2 : ((l.drop (skipF false l)).drop n).length + n + skipF false l = l.length := by rw [List.length_drop, List.length_drop]; omega
          refine ⟨by simp, by have := g.num; simp; omega, fun i hi hk => ?_, fun i hi => ?_, fun i hi => ?_⟩
          · cases i with
            | zero => have := g.pos; simp; omega
            | succ i =>
              have := g.last i (by simpa using hi) hk
              simp; omega
          · cases i with
            | zero =>
              show line ≤ line + _ ∧ line + _ ≤ line + l.length
              omega
            | succ i =>
              have := g.line i (by simpa using hi)
              show line ≤ (tk r i).2.2 ∧ (tk r i).2.2 ≤ line + l.length
              omega
          · cases i with
            | zero => show t.length ≤ l.length; omega
            | succ i =>
              have := g.size i (by simpa using hi)
              show (tk r i).2.1.length ≤ l.length
              omega
theorem LexOk.tok {l : List UInt8} {T : List Tok} (h : LexOk 1 l T) (hl : l.length ≤ 20000) : TOk T :=
  ⟨h.pos, by have := h.num; omega, h.last, fun i hi => by have := h.line i hi; omega, fun i hi => Nat.le_trans (h.size i hi) hl⟩
theorem flatMap_cell {T : List Tok} {k j : Nat} (hk : k < T.length) (hj : j < 3) : (T.flatMap tokCells)[k * 3 + j]? = (tokCells (tk T k))[j]? := by
  induction T generalizing k with
  | nil => simp at hk
  | cons a T ih =>
    rw [List.flatMap_cons]
    cases k with
    | zero =>
      rw [List.getElem?_append_left (by show 0 * 3 + j < 3; omega), Nat.zero_mul, Nat.zero_add]; rfl
    | succ k =>
      rw [List.getElem?_append_right (by show 3 ≤ (k + 1) * 3 + j; omega), show (k + 1) * 3 + j - (tokCells a).length = k * 3 + j by show (k + 1) * 3 + j - 3 = _; omega]
      exact ih (by simpa using hk)
/-- The row of tokens reads; a parser laid over it. -/
theorem Prs.start {B base : Nat} {v : Value} {T : List Tok} {w : World} (hT : TOk T) (ho : w.ownsRow base 47 3 v T.length (T.flatMap tokCells)) :
    ∃ g cap, v = .slice (some ⟨g, 0, none⟩) T.length cap ∧ base ≤ g ∧ g < w.heap.size ∧ (∀ W, Below w.heap.size w W → Bk B #[v, .int .i64 0, .int .i64 0] W → w.heap.size ≤ B → Prs B g T.length cap T ⟨0, 0⟩ W) := by
  rcases ho.2 with ⟨_, hn⟩ | ⟨g, cap, cur, rfl, hg, hgg, hc, hm, hs, ht⟩
  · have := hT.pos; omega
  · have hlt := (Array.getElem?_eq_some_iff.1 hgg).1
    refine ⟨g, cap, rfl, hg, hlt, fun W hb hB hle => ⟨hB, fun k hk => ?_, by omega, Nat.lt_of_lt_of_le hlt hb.size, hT.pos, rfl, hc, by unfold maxLen at hm; omega⟩⟩
    have key : ∀ j, j < 3 → W.cell? ⟨g, k * 3 + j, none⟩ = (tokCells (tk T k))[j]? := fun j hj => by
      have h1 : W.cell? ⟨g, k * 3 + j, none⟩ = w.cell? ⟨g, k * 3 + j, none⟩ := World.cell?_of_block (a := ⟨g, k * 3 + j, none⟩) (hb.block g hlt)
      rw [h1, ho.cellAt (k * 3 + j) (by omega), flatMap_cell hk hj]
    exact ⟨key 0 (by omega), key 1 (by omega), key 2 (by omega)⟩

end Go.Proofs.Ythdcgplocdehjaa

/- The parser: Parse; what its walk needs. -/
namespace Go.Proofs.Ythdcgplocdehjaa
open Go.RowKit Go.Proofs.Kit

theorem fldS_mono (T : List Tok) (s : St) : s.i ≤ (fldS T s).i := by
  unfold fldS
  have h0 := needS_mono T s 1 []
  have h1 := valS_mono T (needS T s 1 [])
  have h2 := comS_mono T T.length (valS T (needS T s 1 []))
  have h3 := needS_mono T (comS T T.length (valS T (needS T s 1 []))) 4 [59]
  omega
theorem fsS_mono (T : List Tok) : ∀ (f : Nat) (s : St), s.i ≤ (fsS T f s).i := by
  intro f
  induction f with
  | zero => intro s; exact Nat.le_refl _
  | succ f ih =>
    intro s
    unfold fsS
    split
    · exact Nat.le_trans (fldS_mono _ _) (ih _)
    · exact Nat.le_refl _
theorem blkS_more {T : List Tok} {s : St} (h : isP T s 1 [] = true) : s.i + 1 ≤ (blkS T s).i := by
  have e : (needS T s 1 []).i = s.i + 1 := by rw [needS_yes h]; unfold nextP; rw [if_neg (by decide)]
  unfold blkS blk3
  have h1 := takeS_mono T (needS T s 1 []) 1 []
  have h2 := needS_mono T (takeS T (needS T s 1 []) 1 []) 4 [123]
  have h3 := fsS_mono T T.length (needS T (takeS T (needS T s 1 []) 1 []) 4 [123])
  have h4 := needS_mono T (fsS T T.length (needS T (takeS T (needS T s 1 []) 1 []) 4 [123])) 4 [125]
  omega
def bsT (T : List Tok) : Nat → St → List BlkP
  | 0, _ => []
  | f + 1, s => if isP T s 1 [] then blkT T s :: bsT T f (blkS T s) else []
def bsS (T : List Tok) : Nat → St → St
  | 0, s => s
  | f + 1, s => if isP T s 1 [] then bsS T f (blkS T s) else s
theorem bsT_no {T : List Tok} {f : Nat} {s : St} (h : isP T s 1 [] = false) : bsT T f s = [] ∧ bsS T f s = s := by
  cases f with
  | zero => exact ⟨rfl, rfl⟩
  | succ f => unfold bsT bsS; rw [if_neg (by rw [h]; simp), if_neg (by rw [h]; simp)]; exact ⟨rfl, rfl⟩
theorem bsT_yes {T : List Tok} {f : Nat} {s : St} (h : isP T s 1 [] = true) : bsT T (f + 1) s = blkT T s :: bsT T f (blkS T s) ∧ bsS T (f + 1) s = bsS T f (blkS T s) := by
  refine ⟨?_, ?_⟩
  · conv => lhs; unfold bsT
    rw [if_pos h]
  · conv => lhs; unfold bsS
    rw [if_pos h]
/-- The word 'election'. -/
def elW : List UInt8 := [101, 108, 101, 99, 116, 105, 111, 110]
def srcA (T : List Tok) : St := needS T ⟨0, 0⟩ 1 elW
def srcC (T : List Tok) : St := needS T (needS T (srcA T) 3 []) 4 [123]
/-- title, blocks. -/
abbrev Src := List UInt8 × List BlkP
def srcT (T : List Tok) : Src := ((takeT T (srcA T) 3 []).2.1, bsT T T.length (srcC T))
def srcS (T : List Tok) : St := needS T (needS T (bsS T T.length (srcC T)) 4 [125]) 5 []

/-- The four cells of a block. -/
def blkR (w : World) (c : List Value) (b : BlkP) : Prop := ∃ u, c = [strV b.1, strV b.2.1, u, .int .i64 b.2.2.2] ∧ SliceOf fldR 3 w u b.2.2.1
theorem erB : ElemRow Try.prog 22 39 (.agg #[.string ⟨#[]⟩, .string ⟨#[]⟩, .slice none 0 0, .int .i64 0]) 4 64 := ⟨Try.underlying22, by kernel_rfl, rfl, by decide⟩
theorem block_v {B g n cap : Nat} {T : List Tok} {s : St} {w : World} (hT : TOk T) (h : Prs B g n cap T s w) {S N : ByteArray} (hS : strV (blkT T s).1 = .string S) (hN : strV (blkT T s).2.1 = .string N) {l : Nat} (hl : (blkT T s).2.2.2 = l) :
    Calls Try.prog 20 #[.pointer (some ⟨B, 0, none⟩)] w fun e w' => ∃ p m c, e = .returned (.agg #[.string S, .string N, .slice p m c, .int .i64 l]) ∧ Hid (Made w.heap.size (fun W => blkR W [.string S, .string N, .slice p m c, .int .i64 l] (blkT T s)) w') ∧ Prs B g n cap T (blkS T s) w' ∧ Upd B w w' :=
  (block_c hT h).mono (by
    rintro e w' ⟨p, m, c, rfl, ⟨css, hL⟩, hp, hu⟩
    refine ⟨p, m, c, by rw [hS, hN, hl], Lib.hid ?_, hp, hu⟩
    exact (Lst.made hL (Nat.le_refl _) (Nat.le_refl _)).imp fun W g' => ⟨_, by rw [hS, hN, hl], g'⟩)
def srcZ : Array Value := #[.string ⟨#[]⟩, .slice none 0 0]
def fltZ : Array Value := #[.int .i64 0, .int .i64 0]
/-- A source under construction in block F; the blocks R1, R2 are for the results. -/
def QS (R1 R2 F b0 : Nat) (S : ByteArray) (u : Value) (bs : List BlkP) (css : List (List Value)) (W : World) : Prop := (Bk R1 srcZ W ∧ Bk R2 fltZ W) ∧ Bk F #[.string S, u] W ∧ Lst blkR b0 b0 39 4 u W bs css
theorem QS.st {B R1 R2 F b0 : Nat} {S : ByteArray} {u : Value} {bs : List BlkP} {css : List (List Value)} (h0 : R1 ≠ B) (h1 : R2 ≠ B) (h2 : F ≠ B) (h3 : B < b0) : ∀ W W', Upd B W W' → QS R1 R2 F b0 S u bs css W → QS R1 R2 F b0 S u bs css W' :=
  fun _ _ hu k => ⟨⟨k.1.1.upd hu h0, k.1.2.upd hu h1⟩, k.2.1.upd hu h2, Lst.upd k.2.2 hu h3 h3⟩
theorem QS.grow {B g n cap R1 R2 F b0 : Nat} {T : List Tok} {s : St} {w W W' W2 : World} {S : ByteArray} {u v' : Value} {bs : List BlkP} {css : List (List Value)} {y : BlkP} {c : List Value} (h : Kn B g n cap T s w (QS R1 R2 F b0 S u bs css) W) (hR1 : R1 ≠ B) (hR2 : R2 ≠ B) (hF : F ≠ B) (hB : B < b0) (hR1F : R1 ≠ F) (hR2F : R2 ≠ F) (hF2 : w.heap.size ≤ F) (hBF : B ≤ F) (hgw : g < b0) (hgF : g ≠ F) (hR1b : R1 < b0) (hR2b : R2 < b0) (hFb : F < b0)
    (hL : Lst blkR b0 b0 39 4 v' W' (bs ++ [y]) (css ++ [c])) (hb : Below b0 W W') (e : W2 = W'.setCell ⟨F, 1, none⟩ v') :
    Kn B g n cap T s w (QS R1 R2 F b0 S v' (bs ++ [y]) (css ++ [c])) W2 := by
  subst e
  obtain ⟨⟨hq0, hq1⟩, hq2, hq3⟩ := h.q
  have hsz := hb.size
  have hp : Prs B g n cap T s W' := h.p.same (hb.block B hB) (hb.block g hgw) hsz
  have hu : Upd B w W' := ⟨fun k hk hne => (hb.block k (by omega)).trans (h.u.heap k hk hne), h.u.below.trans (hb.mono (by omega))⟩
  have hF' : Bk F #[.string S, u] W' := hq2.same (hb.block F hFb) hsz
  exact ⟨hp.off hF (fun hh => hgF hh.symm), ⟨⟨(hq0.same (hb.block R1 hR1b) hsz).same (Below.heap_setCell _ ⟨F, 1, none⟩ _ R1 hR1F) (by simp), (hq1.same (hb.block R2 hR2b) hsz).same (Below.heap_setCell _ ⟨F, 1, none⟩ _ R2 hR2F) (by simp)⟩, hF'.put (o := 1) (by simp) v', Lst.set_ hL hFb hFb⟩, hu.off hF2 hBF, QS.st hR1 hR2 hF hB⟩
theorem QS.after {R1 R2 F b0 : Nat} {S : ByteArray} {u : Value} {bs : List BlkP} {css : List (List Value)} {W W' : World} (hq : QS R1 R2 F b0 S u bs css W) (hb : Below b0 W W') (hFb : F < b0) : Bk F #[.string S, u] W' :=
  hq.2.1.same (hb.block F hFb) hb.size
theorem Bk.free2 {b : Nat} {cs : Array Value} {w : World} (h : Bk b cs w) : w.frozen? ⟨b, 0, none⟩ = false ∧ w.frozen? ⟨b, 1, none⟩ = false := ⟨h.2.2 0, h.2.2 1⟩

end Go.Proofs.Ythdcgplocdehjaa
