/- The reference's reader: block; what its walk needs. -/
import Derived.Test.YthdcgplocdehjaaQe
namespace Go.Proofs.Ythdcgplocdehjaa
open Go.RowKit Go.Proofs.Kit

theorem needS_bad {T : List Tok} {s : St} {kind : Int} {text : List UInt8} (h : s.f ≠ 0) : needS T s kind text = s := by rw [needS_no (isP_fault h)]; unfold failP; rw [if_neg h]
theorem takeS_bad {T : List Tok} {s : St} {kind : Int} {text : List UInt8} (h : s.f ≠ 0) : takeS T s kind text = s := takeS_no (isP_fault h)
theorem valS_bad {T : List Tok} {s : St} (h : s.f ≠ 0) : valS T s = s := by
  unfold valS
  rw [if_neg (by rw [isP_fault h]; simp), if_neg (by rw [isP_fault h]; simp), needS_bad h, if_neg (by rw [isP_fault h]; simp)]
theorem comS_bad {T : List Tok} {f : Nat} {s : St} (h : s.f ≠ 0) : comS T f s = s := (comT_no (isP_fault h)).2
theorem fldS_bad {T : List Tok} {s : St} (h : s.f ≠ 0) : fldS T s = s := by
  unfold fldS
  rw [needS_bad h, valS_bad h, comS_bad h, needS_bad h]
theorem failP_f {T : List Tok} {s : St} (hT : TOk T) (hi : s.i < T.length) : (failP T s).f ≠ 0 := by
  unfold failP
  split
  · have := (hT.line s.i hi).1
    show (tk T s.i).2.2 ≠ 0
    omega
  · assumption
theorem failP_i (T : List Tok) (s : St) : (failP T s).i = s.i := by unfold failP; split <;> rfl
theorem fldS_no {T : List Tok} {s : St} (hT : TOk T) (hi : s.i < T.length) (h : isP T s 1 [] = false) : fldS T s = failP T s := by
  have hf := failP_f (s := s) hT hi
  unfold fldS
  rw [needS_no h, valS_bad hf, comS_bad hf, needS_bad hf]
/-- A field goes on, or fails. -/
theorem fldS_goes {T : List Tok} {s : St} (hT : TOk T) (hi : s.i < T.length) : s.i + 1 ≤ (fldS T s).i ∨ (fldS T s).f ≠ 0 := by
  cases h : isP T s 1 []
  · rw [fldS_no hT hi h]; exact .inr (failP_f hT hi)
  · exact .inl (fldS_more h)
/-- A field as the reference reads it. -/
def rfldT (T : List Tok) (s : St) : Fld := ((fldT T s).1, (fldT T s).2.1, (tk T s.i).2.2)
def goesOn (T : List Tok) (s : St) : Bool := s.f == 0 && !(isP T s 4 [125])
def rfsT (T : List Tok) : Nat → St → List Fld
  | 0, _ => []
  | f + 1, s => if goesOn T s then rfldT T s :: rfsT T f (fldS T s) else []
def rfsS (T : List Tok) : Nat → St → St
  | 0, s => s
  | f + 1, s => if goesOn T s then rfsS T f (fldS T s) else s
theorem rfsT_no {T : List Tok} {f : Nat} {s : St} (h : goesOn T s = false) : rfsT T f s = [] ∧ rfsS T f s = s := by
  cases f with
  | zero => exact ⟨rfl, rfl⟩
  | succ f => unfold rfsT rfsS; rw [if_neg (by rw [h]; simp), if_neg (by rw [h]; simp)]; exact ⟨rfl, rfl⟩
theorem rfsT_yes {T : List Tok} {f : Nat} {s : St} (h : goesOn T s = true) : rfsT T (f + 1) s = rfldT T s :: rfsT T f (fldS T s) ∧ rfsS T (f + 1) s = rfsS T f (fldS T s) := by
  refine ⟨?_, ?_⟩
  · conv => lhs; unfold rfsT
    rw [if_pos h]
  · conv => lhs; unfold rfsS
    rw [if_pos h]
def rblkT (T : List Tok) (s : St) : BlkP := ((takeT T s 1 []).2.1, (takeT T (needS T s 1 []) 1 []).2.1, rfsT T (T.length + 1) (blk3 T s), (tk T s.i).2.2)
def rblkS (T : List Tok) (s : St) : St := needS T (rfsS T (T.length + 1) (blk3 T s)) 4 [125]

theorem QB.growR {B g n cap R F b0 : Nat} {T : List Tok} {s : St} {w W W' W2 : World} {S N : ByteArray} {l : Nat} {u v' : Value} {fs : List Fld} {css : List (List Value)} {y : Fld} {c : List Value} (h : Knr B g n cap T s w (QB R F b0 S N l u fs css) W) (hR : R ≠ B) (hF : F ≠ B) (hB : B < w.heap.size) (hRF : R ≠ F) (hF2 : w.heap.size ≤ F) (hgw : g < w.heap.size) (hRb : R < b0) (hFb : F < b0)
    (hL : Lst fldR b0 b0 42 3 v' W' (fs ++ [y]) (css ++ [c])) (hb : Below b0 W W') (e : W2 = W'.setCell ⟨F, 2, none⟩ v') :
    Knr B g n cap T s w (QB R F b0 S N l v' (fs ++ [y]) (css ++ [c])) W2 := by
  subst e
  obtain ⟨hq1, hq2, hq3⟩ := h.q
  have hsz := hb.size
  have kB : W'.heap[B]? = W.heap[B]? := hb.block B (by omega)
  have kg : W'.heap[g]? = W.heap[g]? := hb.block g (by omega)
  have kR : W'.heap[R]? = W.heap[R]? := hb.block R hRb
  have kF : W'.heap[F]? = W.heap[F]? := hb.block F hFb
  have hp : Rdr B g n cap T s W' := h.p.same kB kg hsz
  have hu : Upd B w W' := ⟨fun k hk hne => (hb.block k (by omega)).trans (h.u.heap k hk hne), h.u.below.trans (hb.mono (by omega))⟩
  have hF' : Bk F #[.string S, .string N, u, .int .i64 l] W' := hq2.same kF hsz
  exact ⟨hp.off hF (fun hh => by omega), ⟨(hq1.same kR hsz).same (Below.heap_setCell _ ⟨F, 2, none⟩ _ R hRF) (by simp), hF'.put (o := 2) (by simp) v', Lst.set_ hL hFb hFb⟩, hu.off hF2 (by omega), QB.st hR hF (by omega)⟩
/-- field, with the shape of its row and what it is read off. -/
theorem rfield_v {B g n cap : Nat} {T : List Tok} {s : St} {w : World} (hT : TOk T) (h : Rdr B g n cap T s w) {S : ByteArray} (hS : strV (rfldT T s).1 = .string S) {l : Nat} (hl : (rfldT T s).2.2 = l) :
    Calls Try.prog 38 #[.pointer (some ⟨B, 0, none⟩)] w fun e w' => ∃ p m c, e = .returned (.agg #[.string S, .slice p m c, .int .i64 l]) ∧ Hid (Made w.heap.size (fun W => fldR W [.string S, .slice p m c, .int .i64 l] (rfldT T s)) w') ∧ Rdr B g n cap T (fldS T s) w' ∧ Upd B w w' :=
  (rfield_c hT h).mono (by
    rintro e w' ⟨u, rfl, ho, hp, hu⟩
    obtain ⟨p, m, c, rfl⟩ := own_sl ho
    refine ⟨p, m, c, by rw [← hS, ← hl]; rfl, Lib.hid ?_, hp, hu⟩
    exact (RowAt.made (RowAt.owned ho) fun b hb => (ho.lt b hb).1).imp fun W g' => ⟨_, by rw [hS, hl], g'⟩)
/-- What the loop's measure counts. -/
def remQ (n B : Nat) (w : World) : Nat := remR n B w + (match w.cell? ⟨B, 2, none⟩ with
  | some (.int _ f) => if f = 0 then 1 else 0
  | _ => 0)
theorem remQ_rdr {B g n cap : Nat} {T : List Tok} {s : St} {w : World} (h : Rdr B g n cap T s w) : remQ n B w = (n - s.i) + (if s.f = 0 then 1 else 0) := by
  unfold remQ
  rw [remR_rdr h, h.blk.three.2.2]
  by_cases hf : s.f = 0
  · simp [hf]
  · have : ¬ ((s.f : Int) = 0) := by omega
    simp [hf]

end Go.Proofs.Ythdcgplocdehjaa
