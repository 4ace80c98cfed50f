/- The parser: Parse; what its walk needs. -/
import Derived.Test.YthdcgplocdehjaaSi
namespace Go.Proofs.Ythdcgplocdehjaa
open Go.RowKit Go.Proofs.Kit

theorem fldS_mono (T : List Tok) (s : St) : s.i ≤ (fldS T s).i := by
  unfold fldS
  have h0 := needS_mono T s 1 []
  have h1 := valS_mono T (needS T s 1 [])
  have h2 := comS_mono T T.length (valS T (needS T s 1 []))
  have h3 := needS_mono T (comS T T.length (valS T (needS T s 1 []))) 4 [59]
  omega
theorem fsS_mono (T : List Tok) : ∀ (f : Nat) (s : St), s.i ≤ (fsS T f s).i := by
  intro f
  induction f with
  | zero => intro s; exact Nat.le_refl _
  | succ f ih =>
    intro s
    unfold fsS
    split
    · exact Nat.le_trans (fldS_mono _ _) (ih _)
    · exact Nat.le_refl _
theorem blkS_more {T : List Tok} {s : St} (h : isP T s 1 [] = true) : s.i + 1 ≤ (blkS T s).i := by
  have e : (needS T s 1 []).i = s.i + 1 := by rw [needS_yes h]; unfold nextP; rw [if_neg (by decide)]
  unfold blkS blk3
  have h1 := takeS_mono T (needS T s 1 []) 1 []
  have h2 := needS_mono T (takeS T (needS T s 1 []) 1 []) 4 [123]
  have h3 := fsS_mono T T.length (needS T (takeS T (needS T s 1 []) 1 []) 4 [123])
  have h4 := needS_mono T (fsS T T.length (needS T (takeS T (needS T s 1 []) 1 []) 4 [123])) 4 [125]
  omega
def bsT (T : List Tok) : Nat → St → List BlkP
  | 0, _ => []
  | f + 1, s => if isP T s 1 [] then blkT T s :: bsT T f (blkS T s) else []
def bsS (T : List Tok) : Nat → St → St
  | 0, s => s
  | f + 1, s => if isP T s 1 [] then bsS T f (blkS T s) else s
theorem bsT_no {T : List Tok} {f : Nat} {s : St} (h : isP T s 1 [] = false) : bsT T f s = [] ∧ bsS T f s = s := by
  cases f with
  | zero => exact ⟨rfl, rfl⟩
  | succ f => unfold bsT bsS; rw [if_neg (by rw [h]; simp), if_neg (by rw [h]; simp)]; exact ⟨rfl, rfl⟩
theorem bsT_yes {T : List Tok} {f : Nat} {s : St} (h : isP T s 1 [] = true) : bsT T (f + 1) s = blkT T s :: bsT T f (blkS T s) ∧ bsS T (f + 1) s = bsS T f (blkS T s) := by
  refine ⟨?_, ?_⟩
  · conv => lhs; unfold bsT
    rw [if_pos h]
  · conv => lhs; unfold bsS
    rw [if_pos h]
/-- The word 'election'. -/
def elW : List UInt8 := [101, 108, 101, 99, 116, 105, 111, 110]
def srcA (T : List Tok) : St := needS T ⟨0, 0⟩ 1 elW
def srcC (T : List Tok) : St := needS T (needS T (srcA T) 3 []) 4 [123]
/-- title, blocks. -/
abbrev Src := List UInt8 × List BlkP
def srcT (T : List Tok) : Src := ((takeT T (srcA T) 3 []).2.1, bsT T T.length (srcC T))
def srcS (T : List Tok) : St := needS T (needS T (bsS T T.length (srcC T)) 4 [125]) 5 []

/-- The four cells of a block. -/
def blkR (w : World) (c : List Value) (b : BlkP) : Prop := ∃ u, c = [strV b.1, strV b.2.1, u, .int .i64 b.2.2.2] ∧ SliceOf fldR 3 w u b.2.2.1
theorem erB : ElemRow Try.prog 22 39 (.agg #[.string ⟨#[]⟩, .string ⟨#[]⟩, .slice none 0 0, .int .i64 0]) 4 64 := ⟨Try.underlying22, by kernel_rfl, rfl, by decide⟩
theorem block_v {B g n cap : Nat} {T : List Tok} {s : St} {w : World} (hT : TOk T) (h : Prs B g n cap T s w) {S N : ByteArray} (hS : strV (blkT T s).1 = .string S) (hN : strV (blkT T s).2.1 = .string N) {l : Nat} (hl : (blkT T s).2.2.2 = l) :
    Calls Try.prog 20 #[.pointer (some ⟨B, 0, none⟩)] w fun e w' => ∃ p m c, e = .returned (.agg #[.string S, .string N, .slice p m c, .int .i64 l]) ∧ Hid (Made w.heap.size (fun W => blkR W [.string S, .string N, .slice p m c, .int .i64 l] (blkT T s)) w') ∧ Prs B g n cap T (blkS T s) w' ∧ Upd B w w' :=
  (block_c hT h).mono (by
    rintro e w' ⟨p, m, c, rfl, ⟨css, hL⟩, hp, hu⟩
    refine ⟨p, m, c, by rw [hS, hN, hl], Lib.hid ?_, hp, hu⟩
    exact (Lst.made hL (Nat.le_refl _) (Nat.le_refl _)).imp fun W g' => ⟨_, by rw [hS, hN, hl], g'⟩)
def srcZ : Array Value := #[.string ⟨#[]⟩, .slice none 0 0]
def fltZ : Array Value := #[.int .i64 0, .int .i64 0]
/-- A source under construction in block F; the blocks R1, R2 are for the results. -/
def QS (R1 R2 F b0 : Nat) (S : ByteArray) (u : Value) (bs : List BlkP) (css : List (List Value)) (W : World) : Prop := (Bk R1 srcZ W ∧ Bk R2 fltZ W) ∧ Bk F #[.string S, u] W ∧ Lst blkR b0 b0 39 4 u W bs css
theorem QS.st {B R1 R2 F b0 : Nat} {S : ByteArray} {u : Value} {bs : List BlkP} {css : List (List Value)} (h0 : R1 ≠ B) (h1 : R2 ≠ B) (h2 : F ≠ B) (h3 : B < b0) : ∀ W W', Upd B W W' → QS R1 R2 F b0 S u bs css W → QS R1 R2 F b0 S u bs css W' :=
  fun _ _ hu k => ⟨⟨k.1.1.upd hu h0, k.1.2.upd hu h1⟩, k.2.1.upd hu h2, Lst.upd k.2.2 hu h3 h3⟩
theorem QS.grow {B g n cap R1 R2 F b0 : Nat} {T : List Tok} {s : St} {w W W' W2 : World} {S : ByteArray} {u v' : Value} {bs : List BlkP} {css : List (List Value)} {y : BlkP} {c : List Value} (h : Kn B g n cap T s w (QS R1 R2 F b0 S u bs css) W) (hR1 : R1 ≠ B) (hR2 : R2 ≠ B) (hF : F ≠ B) (hB : B < b0) (hR1F : R1 ≠ F) (hR2F : R2 ≠ F) (hF2 : w.heap.size ≤ F) (hBF : B ≤ F) (hgw : g < b0) (hgF : g ≠ F) (hR1b : R1 < b0) (hR2b : R2 < b0) (hFb : F < b0)
    (hL : Lst blkR b0 b0 39 4 v' W' (bs ++ [y]) (css ++ [c])) (hb : Below b0 W W') (e : W2 = W'.setCell ⟨F, 1, none⟩ v') :
    Kn B g n cap T s w (QS R1 R2 F b0 S v' (bs ++ [y]) (css ++ [c])) W2 := by
  subst e
  obtain ⟨⟨hq0, hq1⟩, hq2, hq3⟩ := h.q
  have hsz := hb.size
  have hp : Prs B g n cap T s W' := h.p.same (hb.block B hB) (hb.block g hgw) hsz
  have hu : Upd B w W' := ⟨fun k hk hne => (hb.block k (by omega)).trans (h.u.heap k hk hne), h.u.below.trans (hb.mono (by omega))⟩
  have hF' : Bk F #[.string S, u] W' := hq2.same (hb.block F hFb) hsz
  exact ⟨hp.off hF (fun hh => hgF hh.symm), ⟨⟨(hq0.same (hb.block R1 hR1b) hsz).same (Below.heap_setCell _ ⟨F, 1, none⟩ _ R1 hR1F) (by simp), (hq1.same (hb.block R2 hR2b) hsz).same (Below.heap_setCell _ ⟨F, 1, none⟩ _ R2 hR2F) (by simp)⟩, hF'.put (o := 1) (by simp) v', Lst.set_ hL hFb hFb⟩, hu.off hF2 hBF, QS.st hR1 hR2 hF hB⟩
theorem QS.after {R1 R2 F b0 : Nat} {S : ByteArray} {u : Value} {bs : List BlkP} {css : List (List Value)} {W W' : World} (hq : QS R1 R2 F b0 S u bs css W) (hb : Below b0 W W') (hFb : F < b0) : Bk F #[.string S, u] W' :=
  hq.2.1.same (hb.block F hFb) hb.size
theorem Bk.free2 {b : Nat} {cs : Array Value} {w : World} (h : Bk b cs w) : w.frozen? ⟨b, 0, none⟩ = false ∧ w.frozen? ⟨b, 1, none⟩ = false := ⟨h.2.2 0, h.2.2 1⟩

end Go.Proofs.Ythdcgplocdehjaa
