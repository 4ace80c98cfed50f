/- The reference's reader: what is known while it runs. -/
import Derived.Test.YthdcgplocdehjaaQc
namespace Go.Proofs.Ythdcgplocdehjaa
open Go.RowKit Go.Proofs.Kit

/-- What is known while a reader runs: Q is what else stands. -/
structure Knr (B g n cap : Nat) (T : List Tok) (s : St) (w : World) (Q : World → Prop) (W : World) : Prop where
  p : Rdr B g n cap T s W
  q : Q W
  u : Upd B w W
  st : ∀ W W', Upd B W W' → Q W → Q W'
theorem Knr.le {B g n cap : Nat} {T : List Tok} {s : St} {w W : World} {Q : World → Prop} (h : Knr B g n cap T s w Q W) : B ≤ W.heap.size := Nat.le_of_lt h.p.blk.1
theorem Knr.drew {B g n cap : Nat} {T : List Tok} {s : St} {w W : World} {Q : World → Prop} (h : Knr B g n cap T s w Q W) : Knr B g n cap T s w Q W.drew :=
  ⟨h.p.keep (Below.refl _ _).drew, h.st _ _ (Upd.drew _ _ h.le) h.q, h.u.trans (Upd.drew _ _ h.le), h.st⟩
theorem Knr.alloc {B g n cap : Nat} {T : List Tok} {s : St} {w W : World} {Q : World → Prop} (h : Knr B g n cap T s w Q W) (o : Obj) : Knr B g n cap T s w Q (W.alloc o) :=
  ⟨h.p.keep ((Below.refl _ _).alloc (Nat.le_refl _) o), h.st _ _ (Upd.alloc h.le o) h.q, h.u.trans (Upd.alloc h.le o), h.st⟩
theorem Knr.step {B g n cap : Nat} {T : List Tok} {s s' : St} {w W W' : World} {Q : World → Prop} (h : Knr B g n cap T s w Q W) (hu : Upd B W W') (hp : Rdr B g n cap T s' W') : Knr B g n cap T s' w Q W' :=
  ⟨hp, h.st _ _ hu h.q, h.u.trans hu, h.st⟩
theorem Knr.with_ {B g n cap : Nat} {T : List Tok} {s : St} {w W : World} {Q R : World → Prop} (h : Knr B g n cap T s w Q W) (hr : R W) (hs : ∀ W W', Upd B W W' → R W → R W') : Knr B g n cap T s w (fun W => Q W ∧ R W) W :=
  ⟨h.p, ⟨h.q, hr⟩, h.u, fun W W' hu k => ⟨h.st W W' hu k.1, hs W W' hu k.2⟩⟩
theorem Knr.weak {B g n cap : Nat} {T : List Tok} {s : St} {w W : World} {Q R : World → Prop} (h : Knr B g n cap T s w Q W) (hr : Q W → R W) (hs : ∀ W W', Upd B W W' → R W → R W') : Knr B g n cap T s w R W := ⟨h.p, hr h.q, h.u, hs⟩
theorem Rdr.off {B g n cap : Nat} {T : List Tok} {s : St} {w : World} (h : Rdr B g n cap T s w) {b o : Nat} {v : Value} (h1 : b ≠ B) (h2 : b ≠ g) : Rdr B g n cap T s (w.setCell ⟨b, o, none⟩ v) :=
  h.same (Below.heap_setCell _ ⟨b, o, none⟩ _ B h1.symm) (Below.heap_setCell _ ⟨b, o, none⟩ _ g h2.symm) (by simp)
/-- How many tokens are left. -/
def remR (n B : Nat) (w : World) : Nat := match w.cell? ⟨B, 1, none⟩ with
  | some (.int _ i) => n - i.toNat
  | _ => 0
theorem remR_rdr {B g n cap : Nat} {T : List Tok} {s : St} {w : World} (h : Rdr B g n cap T s w) : remR n B w = n - s.i := by
  unfold remR
  rw [h.blk.three.2.1]
  simp
/-- 'r.i++' behind a test that held. -/
theorem Rdr.inc {B g n cap : Nat} {T : List Tok} {s : St} {w : World} {kind : Int} {text : List UInt8} (hT : TOk T) (h : Rdr B g n cap T s w) (hb : isP T s kind text = true) (h5 : kind ≠ 5) : Rdr B g n cap T (takeS T s kind text) (w.setCell ⟨B, 1, none⟩ (.int .i64 ((s.i : Int) + 1))) := by
  have hk := (isP_kind hb).2
  obtain ⟨i, f⟩ := s
  have e : takeS T ⟨i, f⟩ kind text = ⟨i + 1, f⟩ := by rw [takeS_yes hb]; unfold nextP; rw [if_neg h5]
  rw [e]
  exact h.next (by rw [← h.len]; exact hT.last i (by rw [h.len]; exact h.i) (by rw [hk]; exact h5)) (by simp)
theorem Knr.inc {B g n cap : Nat} {T : List Tok} {s : St} {w W : World} {Q : World → Prop} {kind : Int} {text : List UInt8} (hT : TOk T) (h : Knr B g n cap T s w Q W) (hb : isP T s kind text = true) (h5 : kind ≠ 5) : Knr B g n cap T (takeS T s kind text) w Q (W.setCell ⟨B, 1, none⟩ (.int .i64 ((s.i : Int) + 1))) :=
  h.step ((Upd.refl B W).set 1 _) (h.p.inc hT hb h5)
/-- Another block is written. -/
theorem Knr.put {B g n cap F o : Nat} {T : List Tok} {s : St} {w W : World} {Q : World → Prop} {cs : Array Value} (h : Knr B g n cap T s w (fun W => Q W ∧ Bk F cs W) W) (ho : o < cs.size) (v : Value) (hF : F ≠ B) (hg : F ≠ g) (hF2 : w.heap.size ≤ F) (hBF : B ≤ F) (hQ : Q (W.setCell ⟨F, o, none⟩ v)) (hQs : ∀ W W', Upd B W W' → Q W → Q W') :
    Knr B g n cap T s w (fun W => Q W ∧ Bk F (cs.set o v ho) W) (W.setCell ⟨F, o, none⟩ v) :=
  ⟨h.p.off hF hg, ⟨hQ, h.q.2.put ho v⟩, h.u.off hF2 hBF, fun _ _ hu k => ⟨hQs _ _ hu k.1, k.2.upd hu hF⟩⟩
theorem bk_off {b F o : Nat} {cs : Array Value} {w : World} (h : Bk b cs w) (hne : b ≠ F) (v : Value) : Bk b cs (w.setCell ⟨F, o, none⟩ v) := h.same (Below.heap_setCell _ ⟨F, o, none⟩ _ b hne) (by simp)

theorem QF.growR {B g n cap R F : Nat} {T : List Tok} {s : St} {w W W' W2 : World} {S : ByteArray} {l : Nat} {u v' : Value} {vals : List Value} {x : Value} (h : Knr B g n cap T s w (QF R F w.heap.size S l u vals) W) (hR : R ≠ B) (hF : F ≠ B) (hB : B < w.heap.size) (hRF : R ≠ F) (hF2 : w.heap.size ≤ F) (hgw : g < w.heap.size)
    (ho : W'.ownsRow w.heap.size 9 1 v' (vals.length + 1) (vals ++ [x])) (hb : Below w.heap.size W W') (hg : W.grownBy W' u.ownBlock) (hv : v'.ownBlock = u.ownBlock ∨ ∃ b, v'.ownBlock = some b ∧ W.heap.size ≤ b) (e : W2 = W'.setCell ⟨F, 1, none⟩ v') :
    Knr B g n cap T s w (QF R F w.heap.size S l v' (vals ++ [x])) W2 := by
  subst e
  obtain ⟨hq1, hq2, hq3, hq4⟩ := h.q
  have hsz := hb.size
  have kB : W'.heap[B]? = W.heap[B]? := hb.block B hB
  have kg : W'.heap[g]? = W.heap[g]? := hb.block g hgw
  have kR : W'.heap[R]? = W.heap[R]? := hg.block R hq1.1 (fun g' => (hq4 R g'.symm).1 rfl)
  have kF : W'.heap[F]? = W.heap[F]? := hg.block F hq2.1 (fun g' => (hq4 F g'.symm).2 rfl)
  have hp : Rdr B g n cap T s W' := h.p.same kB kg hsz
  have hu : Upd B w W' := ⟨fun k hk hne => (hb.block k hk).trans (h.u.heap k hk hne), h.u.below.trans (hb.mono (by omega))⟩
  have hne : ∀ b, v'.ownBlock = some b → b ≠ R ∧ b ≠ F := fun b hbv => by
    rcases hv with hv | ⟨b', hv, hbl⟩
    · exact hq4 b (by rw [← hv]; exact hbv)
    · rw [hv] at hbv
      have e := Option.some.inj hbv
      have h1 := hq1.1
      have h2 := hq2.1
      omega
  have hF' : Bk F #[.string S, u, .int .i64 l] W' := hq2.same kF hsz
  have ho2 := ownsRow_setCell_other ho (a := ⟨F, 1, none⟩) (fun hh => (hne F hh).2 rfl) v'
  refine ⟨hp.off hF (fun hh => by omega), ⟨(hq1.same kR hsz).same (Below.heap_setCell _ ⟨F, 1, none⟩ _ R hRF) (by simp), hF'.put (o := 1) (by simp) v', ?_, hne⟩, hu.off hF2 (by omega), QF.st hR hF hB⟩
  rw [List.length_append, List.length_singleton]
  exact ho2
/-- The first value is laid. -/
theorem QF.first {B g n cap R F : Nat} {T : List Tok} {s : St} {w W : World} {S V : ByteArray} {l : Nat} (h : Knr B g n cap T s w (fun W => Bk R fldZ W ∧ Bk F #[.string S, .slice none 0 0, .int .i64 l] W) W) (hR : R ≠ B) (hF : F ≠ B) (hB : B < w.heap.size) (hRF : R ≠ F) (hF2 : w.heap.size ≤ F) (hgw : g < w.heap.size) (hWl : w.heap.size ≤ W.heap.size) :
    Knr B g n cap T s w (QF R F w.heap.size S l (.slice (some ⟨W.heap.size, 0, none⟩) 1 1) [.string V]) ((W.setCell ⟨F, 1, none⟩ (.slice (some ⟨W.heap.size, 0, none⟩) 1 1)).alloc (.cells #[.string V] 9)) := by
  have hRl := h.q.1.1
  have hFl := h.q.2.1
  have hp := h.p.off (o := 1) (v := .slice (some ⟨W.heap.size, 0, none⟩) 1 1) hF (by omega)
  have hu := h.u.off (o := 1) (v := .slice (some ⟨W.heap.size, 0, none⟩) 1 1) hF2 (by omega)
  have hr := bk_off (o := 1) h.q.1 hRF (.slice (some ⟨W.heap.size, 0, none⟩) 1 1)
  have hf := h.q.2.put (o := 1) (by simp) (.slice (some ⟨W.heap.size, 0, none⟩) 1 1)
  have hz : (W.setCell ⟨F, 1, none⟩ (.slice (some ⟨W.heap.size, 0, none⟩) 1 1)).heap.size = W.heap.size := by simp
  revert hp hu hr hf hz
  generalize W.setCell ⟨F, 1, none⟩ (.slice (some ⟨W.heap.size, 0, none⟩) 1 1) = Y
  intro hp hu hr hf hz
  have ho := one_own Y w.heap.size V (by omega)
  rw [hz] at ho
  have hA := (Below.refl Y.heap.size Y).alloc (Nat.le_refl _) (.cells #[.string V] 9)
  exact ⟨hp.keep hA, ⟨hr.keep hA, hf.keep hA, ho, fun b hb => by
    have e : W.heap.size = b := by simpa [Value.ownBlock] using hb
    omega⟩, hu.trans (Upd.of hA (by omega)), QF.st hR hF hB⟩

end Go.Proofs.Ythdcgplocdehjaa
