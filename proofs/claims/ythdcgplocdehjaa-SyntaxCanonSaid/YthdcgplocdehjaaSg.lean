/- The parser: block; what its walk needs. -/
import Derived.Test.YthdcgplocdehjaaSf
namespace Go.Proofs.Ythdcgplocdehjaa
open Go.RowKit Go.Proofs.Kit

theorem comS_mono (T : List Tok) : ∀ (f : Nat) (s : St), s.i ≤ (comS T f s).i := by
  intro f
  induction f with
  | zero => intro s; exact Nat.le_refl _
  | succ f ih =>
    intro s
    unfold comS
    split
    · exact Nat.le_trans (takeS_mono _ _ _ _) (Nat.le_trans (valS_mono _ _) (ih _))
    · exact Nat.le_refl _
theorem fldS_more {T : List Tok} {s : St} (h : isP T s 1 [] = true) : s.i + 1 ≤ (fldS T s).i := by
  have e : (needS T s 1 []).i = s.i + 1 := by rw [needS_yes h]; unfold nextP; rw [if_neg (by decide)]
  unfold fldS
  have h1 := valS_mono T (needS T s 1 [])
  have h2 := comS_mono T T.length (valS T (needS T s 1 []))
  have h3 := needS_mono T (comS T T.length (valS T (needS T s 1 []))) 4 [59]
  omega
def fsT (T : List Tok) : Nat → St → List Fld
  | 0, _ => []
  | f + 1, s => if isP T s 1 [] then fldT T s :: fsT T f (fldS T s) else []
def fsS (T : List Tok) : Nat → St → St
  | 0, s => s
  | f + 1, s => if isP T s 1 [] then fsS T f (fldS T s) else s
theorem fsT_no {T : List Tok} {f : Nat} {s : St} (h : isP T s 1 [] = false) : fsT T f s = [] ∧ fsS T f s = s := by
  cases f with
  | zero => exact ⟨rfl, rfl⟩
  | succ f => unfold fsT fsS; rw [if_neg (by rw [h]; simp), if_neg (by rw [h]; simp)]; exact ⟨rfl, rfl⟩
theorem fsT_yes {T : List Tok} {f : Nat} {s : St} (h : isP T s 1 [] = true) : fsT T (f + 1) s = fldT T s :: fsT T f (fldS T s) ∧ fsS T (f + 1) s = fsS T f (fldS T s) := by
  refine ⟨?_, ?_⟩
  · conv => lhs; unfold fsT
    rw [if_pos h]
  · conv => lhs; unfold fsS
    rw [if_pos h]
/-- kind, name, fields, line. -/
abbrev BlkP := List UInt8 × List UInt8 × List Fld × Nat
def blk3 (T : List Tok) (s : St) : St := needS T (takeS T (needS T s 1 []) 1 []) 4 [123]
def blkT (T : List Tok) (s : St) : BlkP := ((takeT T s 1 []).2.1, (takeT T (needS T s 1 []) 1 []).2.1, fsT T T.length (blk3 T s), (takeT T s 1 []).2.2)
def blkS (T : List Tok) (s : St) : St := needS T (fsS T T.length (blk3 T s)) 4 [125]

/-- The three cells of a field. -/
def fldR (w : World) (c : List Value) (f : Fld) : Prop := ∃ u, c = [strV f.1, u, .int .i64 f.2.2] ∧ RowAt w u (f.2.1.map strV)
theorem erF : ElemRow Try.prog 37 42 (.agg #[.string ⟨#[]⟩, .slice none 0 0, .int .i64 0]) 3 48 := ⟨Try.underlying37, by kernel_rfl, rfl, by decide⟩
theorem Lst.upd {α : Type} {R : World → List Value → α → Prop} {B b0 base k : Nat} {e : TypeId} {w w' : World} {v : Value} {l : List α} {css : List (List Value)} (h : Lst R b0 base e k v w l css) (hu : Upd B w w') (h1 : B < b0) (h2 : B < base) : Lst R b0 base e k v w' l css :=
  ⟨ownsRow_upd h.own hu h2, h.len, h.siz, fun i c x hi hx => On.mono (On.step (h.elt i c x hi hx) fun b hb => hu.heap b hb.2.1 (by omega)) fun _ hb => ⟨hb.1, Nat.lt_of_lt_of_le hb.2.1 hu.below.size, hb.2.2⟩⟩
theorem Lst.set_ {α : Type} {R : World → List Value → α → Prop} {b0 base k F o : Nat} {e : TypeId} {w : World} {v x : Value} {l : List α} {css : List (List Value)} (h : Lst R b0 base e k v w l css) (h1 : F < b0) (h2 : F < base) : Lst R b0 base e k v (w.setCell ⟨F, o, none⟩ x) l css :=
  ⟨ownsRow_setCell_below h.own (a := ⟨F, o, none⟩) h2 x, h.len, h.siz, fun i c y hi hy => On.mono (On.step (h.elt i c y hi hy) fun b hb => Below.heap_setCell _ ⟨F, o, none⟩ x b (by show b ≠ F; omega)) fun _ hb => ⟨hb.1, by simpa using hb.2.1, hb.2.2⟩⟩
theorem Lst.down {α : Type} {R : World → List Value → α → Prop} {b0 b1 k : Nat} {e : TypeId} {w : World} {v : Value} {l : List α} {css : List (List Value)} (h : Lst R b0 b0 e k v w l css) (hb : b1 ≤ b0) : Lst R b1 b1 e k v w l css :=
  ⟨⟨h.own.1, by
    rcases h.own.2 with hn | ⟨g, cap, cur, e, hg, rest⟩
    · exact .inl hn
    · exact .inr ⟨g, cap, cur, e, Nat.le_trans hb hg, rest⟩⟩, h.len, h.siz, fun i c x hi hx => On.mono (h.elt i c x hi hx) fun _ hb' => ⟨Nat.le_trans hb hb'.1, hb'.2⟩⟩
theorem fresh_elt' {α : Type} {R : World → List Value → α → Prop} {B base k : Nat} {e : TypeId} {w w1 : World} {v : Value} {l : List α} {css : List (List Value)} {S : World → Prop} (hL : Lst R B base e k v w l css) (hm : Made w.heap.size S w1) (hB : B ≤ w.heap.size) : On (fun b => B ≤ b ∧ b < w1.heap.size ∧ v.ownBlock ≠ some b) S w1 :=
  On.mono (hm.off (o := v.ownBlock) fun g hg => (hL.lt g hg).2) fun _ hb => ⟨Nat.le_trans hB hb.1, hb.2⟩
def blkZ : Array Value := #[.string ⟨#[]⟩, .string ⟨#[]⟩, .slice none 0 0, .int .i64 0]
/-- A block under construction in block F; block R is for the result. -/
def QB (R F b0 : Nat) (S N : ByteArray) (l : Nat) (u : Value) (fs : List Fld) (css : List (List Value)) (W : World) : Prop := Bk R blkZ W ∧ Bk F #[.string S, .string N, u, .int .i64 l] W ∧ Lst fldR b0 b0 42 3 u W fs css
theorem QB.st {B R F b0 : Nat} {S N : ByteArray} {l : Nat} {u : Value} {fs : List Fld} {css : List (List Value)} (h1 : R ≠ B) (h2 : F ≠ B) (h3 : B < b0) : ∀ W W', Upd B W W' → QB R F b0 S N l u fs css W → QB R F b0 S N l u fs css W' :=
  fun _ _ hu k => ⟨k.1.upd hu h1, k.2.1.upd hu h2, Lst.upd k.2.2 hu h3 h3⟩
theorem QB.grow {B g n cap R F b0 : Nat} {T : List Tok} {s : St} {w W W' W2 : World} {S N : ByteArray} {l : Nat} {u v' : Value} {fs : List Fld} {css : List (List Value)} {y : Fld} {c : List Value} (h : Kn B g n cap T s w (QB R F b0 S N l u fs css) W) (hR : R ≠ B) (hF : F ≠ B) (hB : B < w.heap.size) (hRF : R ≠ F) (hF2 : w.heap.size ≤ F) (hgw : g < w.heap.size) (hRb : R < b0) (hFb : F < b0)
    (hL : Lst fldR b0 b0 42 3 v' W' (fs ++ [y]) (css ++ [c])) (hb : Below b0 W W') (e : W2 = W'.setCell ⟨F, 2, none⟩ v') :
    Kn B g n cap T s w (QB R F b0 S N l v' (fs ++ [y]) (css ++ [c])) W2 := by
  subst e
  obtain ⟨hq1, hq2, hq3⟩ := h.q
  have hsz := hb.size
  have kB : W'.heap[B]? = W.heap[B]? := hb.block B (by omega)
  have kg : W'.heap[g]? = W.heap[g]? := hb.block g (by omega)
  have kR : W'.heap[R]? = W.heap[R]? := hb.block R hRb
  have kF : W'.heap[F]? = W.heap[F]? := hb.block F hFb
  have hp : Prs B g n cap T s W' := h.p.same kB kg hsz
  have hu : Upd B w W' := ⟨fun k hk hne => (hb.block k (by omega)).trans (h.u.heap k hk hne), h.u.below.trans (hb.mono (by omega))⟩
  have hF' : Bk F #[.string S, .string N, u, .int .i64 l] W' := hq2.same kF hsz
  exact ⟨hp.off hF (fun hh => by omega), ⟨(hq1.same kR hsz).same (Below.heap_setCell _ ⟨F, 2, none⟩ _ R hRF) (by simp), hF'.put (o := 2) (by simp) v', Lst.set_ hL hFb hFb⟩, hu.off hF2 (by omega), QB.st hR hF (by omega)⟩
theorem QB.after {R F b0 : Nat} {S N : ByteArray} {l : Nat} {u : Value} {fs : List Fld} {css : List (List Value)} {W W' : World} (hq : QB R F b0 S N l u fs css W) (hb : Below b0 W W') (hFb : F < b0) : Bk F #[.string S, .string N, u, .int .i64 l] W' :=
  hq.2.1.same (hb.block F hFb) hb.size
theorem Bk.four {b : Nat} {x y z t : Value} {w : World} (h : Bk b #[x, y, z, t] w) : w.cell? ⟨b, 0, none⟩ = some x ∧ w.cell? ⟨b, 1, none⟩ = some y ∧ w.cell? ⟨b, 2, none⟩ = some z ∧ w.cell? ⟨b, 3, none⟩ = some t := ⟨h.2.1 0, h.2.1 1, h.2.1 2, h.2.1 3⟩
theorem Bk.free4 {b : Nat} {cs : Array Value} {w : World} (h : Bk b cs w) : w.frozen? ⟨b, 0, none⟩ = false ∧ w.frozen? ⟨b, 1, none⟩ = false ∧ w.frozen? ⟨b, 2, none⟩ = false ∧ w.frozen? ⟨b, 3, none⟩ = false := ⟨h.2.2 0, h.2.2 1, h.2.2 2, h.2.2 3⟩
/-- field, with the shape of its row and what it is read off. -/
theorem field_v {B g n cap : Nat} {T : List Tok} {s : St} {w : World} (hT : TOk T) (h : Prs B g n cap T s w) {S : ByteArray} (hS : strV (fldT T s).1 = .string S) {l : Nat} (hl : (fldT T s).2.2 = l) :
    Calls Try.prog 37 #[.pointer (some ⟨B, 0, none⟩)] w fun e w' => ∃ p m c, e = .returned (.agg #[.string S, .slice p m c, .int .i64 l]) ∧ Hid (Made w.heap.size (fun W => fldR W [.string S, .slice p m c, .int .i64 l] (fldT T s)) w') ∧ Prs B g n cap T (fldS T s) w' ∧ Upd B w w' :=
  (field_c hT h).mono (by
    rintro e w' ⟨u, rfl, ho, hp, hu⟩
    obtain ⟨p, m, c, rfl⟩ := own_sl ho
    refine ⟨p, m, c, by rw [hS, hl], Lib.hid ?_, hp, hu⟩
    exact (RowAt.made (RowAt.owned ho) fun b hb => (ho.lt b hb).1).imp fun W g' => ⟨_, by rw [hS, hl], g'⟩)

end Go.Proofs.Ythdcgplocdehjaa
