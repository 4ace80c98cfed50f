/- The reference: Parse; what its walk needs. -/
import Derived.Test.YthdcgplocdehjaaQg
namespace Go.Proofs.Ythdcgplocdehjaa
open Go.RowKit Go.Proofs.Kit

theorem rfsS_mono (T : List Tok) : ∀ (f : Nat) (s : St), s.i ≤ (rfsS T f s).i := by
  intro f
  induction f with
  | zero => intro s; exact Nat.le_refl _
  | succ f ih =>
    intro s
    unfold rfsS
    split
    · exact Nat.le_trans (fldS_mono _ _) (ih _)
    · exact Nat.le_refl _
theorem rfsS_bad {T : List Tok} {f : Nat} {s : St} (h : s.f ≠ 0) : rfsS T f s = s := (rfsT_no (by unfold goesOn; rw [show (s.f == 0) = false by rw [beq_eq_false_iff_ne]; exact h]; rfl)).2
theorem blk3_bad {T : List Tok} {s : St} (h : (needS T s 1 []).f ≠ 0) : blk3 T s = needS T s 1 [] := by
  unfold blk3
  rw [takeS_bad h, needS_bad h]
theorem rblkS_mono (T : List Tok) (s : St) : s.i ≤ (rblkS T s).i := by
  unfold rblkS blk3
  exact Nat.le_trans (needS_mono _ _ _ _) (Nat.le_trans (takeS_mono _ _ _ _) (Nat.le_trans (needS_mono _ _ _ _) (Nat.le_trans (rfsS_mono _ _ _) (needS_mono _ _ _ _))))
theorem rblkS_no {T : List Tok} {s : St} (hT : TOk T) (hi : s.i < T.length) (h : isP T s 1 [] = false) : rblkS T s = failP T s := by
  have hf := failP_f (s := s) hT hi
  have e : needS T s 1 [] = failP T s := needS_no h
  unfold rblkS
  rw [blk3_bad (by rw [e]; exact hf), e, rfsS_bad hf, needS_bad hf]
theorem rblkS_goes {T : List Tok} {s : St} (hT : TOk T) (hi : s.i < T.length) : s.i + 1 ≤ (rblkS T s).i ∨ (rblkS T s).f ≠ 0 := by
  cases h : isP T s 1 []
  · rw [rblkS_no hT hi h]; exact .inr (failP_f hT hi)
  · refine .inl ?_
    have e : (needS T s 1 []).i = s.i + 1 := by rw [needS_yes h]; unfold nextP; rw [if_neg (by decide)]
    unfold rblkS blk3
    have h1 := takeS_mono T (needS T s 1 []) 1 []
    have h2 := needS_mono T (takeS T (needS T s 1 []) 1 []) 4 [123]
    have h3 := rfsS_mono T (T.length + 1) (needS T (takeS T (needS T s 1 []) 1 []) 4 [123])
    have h4 := needS_mono T (rfsS T (T.length + 1) (needS T (takeS T (needS T s 1 []) 1 []) 4 [123])) 4 [125]
    omega
def rbsT (T : List Tok) : Nat → St → List BlkP
  | 0, _ => []
  | f + 1, s => if goesOn T s then rblkT T s :: rbsT T f (rblkS T s) else []
def rbsS (T : List Tok) : Nat → St → St
  | 0, s => s
  | f + 1, s => if goesOn T s then rbsS T f (rblkS T s) else s
theorem rbsT_no {T : List Tok} {f : Nat} {s : St} (h : goesOn T s = false) : rbsT T f s = [] ∧ rbsS T f s = s := by
  cases f with
  | zero => exact ⟨rfl, rfl⟩
  | succ f => unfold rbsT rbsS; rw [if_neg (by rw [h]; simp), if_neg (by rw [h]; simp)]; exact ⟨rfl, rfl⟩
theorem rbsT_yes {T : List Tok} {f : Nat} {s : St} (h : goesOn T s = true) : rbsT T (f + 1) s = rblkT T s :: rbsT T f (rblkS T s) ∧ rbsS T (f + 1) s = rbsS T f (rblkS T s) := by
  refine ⟨?_, ?_⟩
  · conv => lhs; unfold rbsT
    rw [if_pos h]
  · conv => lhs; unfold rbsS
    rw [if_pos h]
def rsrcT (T : List Tok) : Src := ((takeT T (srcA T) 3 []).2.1, rbsT T (T.length + 1) (srcC T))
def rsrcS (T : List Tok) : St := needS T (needS T (rbsS T (T.length + 1) (srcC T)) 4 [125]) 5 []
theorem rblock_v {B g n cap : Nat} {T : List Tok} {s : St} {w : World} (hT : TOk T) (h : Rdr B g n cap T s w) {S N : ByteArray} (hS : strV (rblkT T s).1 = .string S) (hN : strV (rblkT T s).2.1 = .string N) {l : Nat} (hl : (rblkT T s).2.2.2 = l) :
    Calls Try.prog 23 #[.pointer (some ⟨B, 0, none⟩)] w fun e w' => ∃ p m c, e = .returned (.agg #[.string S, .string N, .slice p m c, .int .i64 l]) ∧ Hid (Made w.heap.size (fun W => blkR W [.string S, .string N, .slice p m c, .int .i64 l] (rblkT T s)) w') ∧ Rdr B g n cap T (rblkS T s) w' ∧ Upd B w w' :=
  (rblock_c hT h).mono (by
    rintro e w' ⟨p, m, c, rfl, ⟨css, hL⟩, hp, hu⟩
    refine ⟨p, m, c, by rw [hS, hN, hl], Lib.hid ?_, hp, hu⟩
    exact (Lst.made hL (Nat.le_refl _) (Nat.le_refl _)).imp fun W g' => ⟨_, by rw [hS, hN, hl], g'⟩)
theorem QS.growR {B g n cap R1 R2 F b0 : Nat} {T : List Tok} {s : St} {w W W' W2 : World} {S : ByteArray} {u v' : Value} {bs : List BlkP} {css : List (List Value)} {y : BlkP} {c : List Value} (h : Knr B g n cap T s w (QS R1 R2 F b0 S u bs css) W) (hR1 : R1 ≠ B) (hR2 : R2 ≠ B) (hF : F ≠ B) (hB : B < b0) (hR1F : R1 ≠ F) (hR2F : R2 ≠ F) (hF2 : w.heap.size ≤ F) (hBF : B ≤ F) (hgw : g < b0) (hgF : g ≠ F) (hR1b : R1 < b0) (hR2b : R2 < b0) (hFb : F < b0)
    (hL : Lst blkR b0 b0 39 4 v' W' (bs ++ [y]) (css ++ [c])) (hb : Below b0 W W') (e : W2 = W'.setCell ⟨F, 1, none⟩ v') :
    Knr B g n cap T s w (QS R1 R2 F b0 S v' (bs ++ [y]) (css ++ [c])) W2 := by
  subst e
  obtain ⟨⟨hq0, hq1⟩, hq2, hq3⟩ := h.q
  have hsz := hb.size
  have hp : Rdr B g n cap T s W' := h.p.same (hb.block B hB) (hb.block g hgw) hsz
  have hu : Upd B w W' := ⟨fun k hk hne => (hb.block k (by omega)).trans (h.u.heap k hk hne), h.u.below.trans (hb.mono (by omega))⟩
  have hF' : Bk F #[.string S, u] W' := hq2.same (hb.block F hFb) hsz
  exact ⟨hp.off hF (fun hh => hgF hh.symm), ⟨⟨(hq0.same (hb.block R1 hR1b) hsz).same (Below.heap_setCell _ ⟨F, 1, none⟩ _ R1 hR1F) (by simp), (hq1.same (hb.block R2 hR2b) hsz).same (Below.heap_setCell _ ⟨F, 1, none⟩ _ R2 hR2F) (by simp)⟩, hF'.put (o := 1) (by simp) v', Lst.set_ hL hFb hFb⟩, hu.off hF2 hBF, QS.st hR1 hR2 hF hB⟩
theorem Rdr.start {B base : Nat} {v : Value} {T : List Tok} {w : World} (hT : TOk T) (ho : w.ownsRow base 47 3 v T.length (T.flatMap tokCells)) :
    ∃ g cap, v = .slice (some ⟨g, 0, none⟩) T.length cap ∧ base ≤ g ∧ g < w.heap.size ∧ (∀ W, Below w.heap.size w W → Bk B #[v, .int .i64 0, .int .i64 0] W → w.heap.size ≤ B → Rdr B g T.length cap T ⟨0, 0⟩ W) := by
  obtain ⟨g, cap, rfl, h1, h2, h3⟩ := Prs.start (B := B) hT ho
  exact ⟨g, cap, rfl, h1, h2, fun W hb hB hl => by
    have p := h3 W hb hB hl
    exact ⟨hB, p.row, p.gB, p.glt, p.i, p.len, p.cap1, p.cap2⟩⟩
/-- What the reference's Parse hands back. -/
def RPRet (B : Nat) (x : Except Nat (List Tok)) (e : Ending) (w' : World) : Prop := match x with
  | .error n => e = .returned (.tuple #[srcNo, .agg #[.int .i64 1, .int .i64 n]])
  | .ok T => if (rsrcS T).f = 0 then ∃ p m c, e = .returned (.tuple #[.agg #[strV (rsrcT T).1, .slice p m c], .agg #[.int .i64 0, .int .i64 0]]) ∧ Made B (fun W => SliceOf blkR 4 W (.slice p m c) (rsrcT T).2) w'
    else e = .returned (.tuple #[srcNo, .agg #[.int .i64 1, .int .i64 (rsrcS T).f]])

end Go.Proofs.Ythdcgplocdehjaa
