/- The parser: field. -/
import Derived.Test.YthdcgplocdehjaaSd
import Derived.Deep.RegionHeld3
import Derived.Deep.RegionLaw
import Derived.Deep.DeepCutAuto
import Derived.Deep.CutBlock
namespace Go.Proofs.Ythdcgplocdehjaa
open Go.RowKit Go.Proofs.Kit

theorem takeS_mono (T : List Tok) (s : St) (kind : Int) (text : List UInt8) : s.i ≤ (takeS T s kind text).i := by
  unfold takeS nextP
  split
  · split
    · exact Nat.le_refl _
    · exact Nat.le_succ _
  · exact Nat.le_refl _
theorem needS_mono (T : List Tok) (s : St) (kind : Int) (text : List UInt8) : s.i ≤ (needS T s kind text).i := by
  unfold needS nextP failP
  split
  · split
    · exact Nat.le_refl _
    · exact Nat.le_succ _
  · split <;> exact Nat.le_refl _
theorem valS_mono (T : List Tok) (s : St) : s.i ≤ (valS T s).i := by
  unfold valS
  split
  · exact takeS_mono _ _ _ _
  · split
    · exact takeS_mono _ _ _ _
    · split
      · exact Nat.le_trans (needS_mono _ _ _ _) (Nat.le_trans (takeS_mono _ _ _ _) (needS_mono _ _ _ _))
      · exact needS_mono _ _ _ _
/-- The values behind the first one. -/
def comT (T : List Tok) : Nat → St → List (List UInt8)
  | 0, _ => []
  | f + 1, s => if isP T s 4 [44] then valT T (takeS T s 4 [44]) :: comT T f (valS T (takeS T s 4 [44])) else []
def comS (T : List Tok) : Nat → St → St
  | 0, s => s
  | f + 1, s => if isP T s 4 [44] then comS T f (valS T (takeS T s 4 [44])) else s
abbrev Fld := List UInt8 × List (List UInt8) × Nat
def fldT (T : List Tok) (s : St) : Fld := ((takeT T s 1 []).2.1, valT T (needS T s 1 []) :: comT T T.length (valS T (needS T s 1 [])), (takeT T s 1 []).2.2)
def fldS (T : List Tok) (s : St) : St := needS T (comS T T.length (valS T (needS T s 1 []))) 4 [59]
def strV (l : List UInt8) : Value := .string ⟨l.toArray⟩
/-- A row of strings of the call's own. -/
abbrev OwnS (w : World) (base : Nat) (v : Value) (l : List (List UInt8)) : Prop := w.ownsRow base 9 1 v l.length (l.map strV)
theorem ownsRow_upd {w w' : World} {B base size n : Nat} {e : TypeId} {v : Value} {cs : List Value} (h : w.ownsRow base e size v n cs) (hu : Upd B w w') (hB : B < base) : w'.ownsRow base e size v n cs := by
  refine ⟨h.1, ?_⟩
  rcases h.2 with hn | ⟨g, cap, cur, rfl, hg, hgg, rest⟩
  · exact .inl hn
  · refine .inr ⟨g, cap, cur, rfl, hg, ?_, rest⟩
    rw [hu.heap g (Array.getElem?_eq_some_iff.1 hgg).1 (by omega)]
    exact hgg
theorem erS : ElemRow Try.prog 40 9 (.string ⟨#[]⟩) 1 16 := ⟨Try.underlying40, by kernel_rfl, rfl, by decide⟩

theorem Upd.drew (B : Nat) (w : World) (hB : B ≤ w.heap.size) : Upd B w w.drew := Upd.of (Below.refl _ _).drew hB
theorem Upd.alloc {B : Nat} {w : World} (hB : B ≤ w.heap.size) (o : Obj) : Upd B w (w.alloc o) := Upd.of ((Below.refl _ _).alloc (Nat.le_refl _) o) hB
/-- What is known while a parser runs: Q is what else stands. -/
structure Kn (B g n cap : Nat) (T : List Tok) (s : St) (w : World) (Q : World → Prop) (W : World) : Prop where
  p : Prs B g n cap T s W
  q : Q W
  u : Upd B w W
  st : ∀ W W', Upd B W W' → Q W → Q W'
theorem Kn.le {B g n cap : Nat} {T : List Tok} {s : St} {w W : World} {Q : World → Prop} (h : Kn B g n cap T s w Q W) : B ≤ W.heap.size := Nat.le_of_lt h.p.blk.1
theorem Kn.drew {B g n cap : Nat} {T : List Tok} {s : St} {w W : World} {Q : World → Prop} (h : Kn B g n cap T s w Q W) : Kn B g n cap T s w Q W.drew :=
  ⟨h.p.keep (Below.refl _ _).drew, h.st _ _ (Upd.drew _ _ h.le) h.q, h.u.trans (Upd.drew _ _ h.le), h.st⟩
theorem Kn.alloc {B g n cap : Nat} {T : List Tok} {s : St} {w W : World} {Q : World → Prop} (h : Kn B g n cap T s w Q W) (o : Obj) : Kn B g n cap T s w Q (W.alloc o) :=
  ⟨h.p.keep ((Below.refl _ _).alloc (Nat.le_refl _) o), h.st _ _ (Upd.alloc h.le o) h.q, h.u.trans (Upd.alloc h.le o), h.st⟩
theorem Kn.step {B g n cap : Nat} {T : List Tok} {s s' : St} {w W W' : World} {Q : World → Prop} (h : Kn B g n cap T s w Q W) (hu : Upd B W W') (hp : Prs B g n cap T s' W') : Kn B g n cap T s' w Q W' :=
  ⟨hp, h.st _ _ hu h.q, h.u.trans hu, h.st⟩
/-- A further fact. -/
theorem Kn.with_ {B g n cap : Nat} {T : List Tok} {s : St} {w W : World} {Q R : World → Prop} (h : Kn B g n cap T s w Q W) (hr : R W) (hs : ∀ W W', Upd B W W' → R W → R W') : Kn B g n cap T s w (fun W => Q W ∧ R W) W :=
  ⟨h.p, ⟨h.q, hr⟩, h.u, fun W W' hu k => ⟨h.st W W' hu k.1, hs W W' hu k.2⟩⟩
theorem Kn.weak {B g n cap : Nat} {T : List Tok} {s : St} {w W : World} {Q R : World → Prop} (h : Kn B g n cap T s w Q W) (hr : Q W → R W) (hs : ∀ W W', Upd B W W' → R W → R W') : Kn B g n cap T s w R W := ⟨h.p, hr h.q, h.u, hs⟩
theorem bk_st {B b : Nat} {cs : Array Value} (hne : b ≠ B) : ∀ W W', Upd B W W' → Bk b cs W → Bk b cs W' := fun _ _ hu k => k.upd hu hne

def fldZ : Array Value := #[.string ⟨#[]⟩, .slice none 0 0, .int .i64 0]
/-- A field under construction in block F; block R is for the result. -/
def QF (R F base : Nat) (S : ByteArray) (l : Nat) (u : Value) (vals : List Value) (W : World) : Prop := Bk R fldZ W ∧ Bk F #[.string S, u, .int .i64 l] W ∧ W.ownsRow base 9 1 u vals.length vals ∧ ∀ b, u.ownBlock = some b → b ≠ R ∧ b ≠ F
theorem QF.st {B R F base : Nat} {S : ByteArray} {l : Nat} {u : Value} {vals : List Value} (h1 : R ≠ B) (h2 : F ≠ B) (h3 : B < base) : ∀ W W', Upd B W W' → QF R F base S l u vals W → QF R F base S l u vals W' :=
  fun _ _ hu k => ⟨k.1.upd hu h1, k.2.1.upd hu h2, ownsRow_upd k.2.2.1 hu h3, k.2.2.2⟩
theorem bk_off3 {b F : Nat} {cs : Array Value} {w : World} (h : Bk b cs w) (hne : b ≠ F) (x y z : Value) : Bk b cs (((w.setCell ⟨F, 0, none⟩ x).setCell ⟨F, 1, none⟩ y).setCell ⟨F, 2, none⟩ z) :=
  h.same (by rw [Below.heap_setCell _ ⟨F, 2, none⟩ _ b hne, Below.heap_setCell _ ⟨F, 1, none⟩ _ b hne, Below.heap_setCell _ ⟨F, 0, none⟩ _ b hne]) (by simp)
theorem Bk.newAt {b : Nat} (w : World) (cs : Array Value) (T : TypeId) (h : b = w.heap.size) : Bk b cs (w.alloc (.cells cs T)) := by subst h; exact Bk.new w cs T
theorem one_own (w : World) (base : Nat) (V : ByteArray) (h : base ≤ w.heap.size) : (w.alloc (.cells #[.string V] 9)).ownsRow base 9 1 (.slice (some ⟨w.heap.size, 0, none⟩) 1 1) 1 [.string V] :=
  World.ownsRow_lit (base := base) (e := 9) (size := 1) w #[.string V] 1 h (by unfold maxLen; omega) rfl
section
variable {B g n cap R : Nat} {T : List Tok} {s : St} {w W : World} {S V : ByteArray} {l : Nat}
theorem QF.a (h : Kn B g n cap T s w (Bk R fldZ) W) (hR : R ≠ B) (hB : B < w.heap.size) :
    Kn B g n cap T s w (QF R (W.heap.size + 1) w.heap.size S l (.slice (some ⟨W.heap.size, 0, none⟩) 1 1) [.string V]) ((W.alloc (.cells #[.string V] 9)).alloc (.cells #[.string S, .slice (some ⟨W.heap.size, 0, none⟩) 1 1, .int .i64 l] 42)) := by
  have hs := h.u.below.size
  have k := (h.alloc (.cells #[.string V] 9)).alloc (.cells #[.string S, .slice (some ⟨W.heap.size, 0, none⟩) 1 1, .int .i64 l] 42)
  have hRl := h.q.1
  exact ⟨k.p, ⟨k.q, Bk.newAt _ _ _ (by simp), ownsRow_below (one_own W w.heap.size V hs) ((Below.refl _ _).alloc (Nat.le_refl _) _), fun b hb => by
    have e : W.heap.size = b := by simpa [Value.ownBlock] using hb
    omega⟩, k.u, QF.st hR (by omega) hB⟩
theorem QF.b (h : Kn B g n cap T s w (Bk R fldZ) W) (hR : R ≠ B) (hB : B < w.heap.size) :
    Kn B g n cap T s w (QF R W.heap.size w.heap.size S l (.slice (some ⟨W.heap.size + 1, 0, none⟩) 1 1) [.string V]) ((W.alloc (.cells #[.string S, .slice (some ⟨W.heap.size + 1, 0, none⟩) 1 1, .int .i64 l] 42)).alloc (.cells #[.string V] 9)) := by
  have hs := h.u.below.size
  have k := (h.alloc (.cells #[.string S, .slice (some ⟨W.heap.size + 1, 0, none⟩) 1 1, .int .i64 l] 42)).alloc (.cells #[.string V] 9)
  have ho := one_own (W.alloc (.cells #[.string S, .slice (some ⟨W.heap.size + 1, 0, none⟩) 1 1, .int .i64 l] 42)) w.heap.size V (by simp; omega)
  rw [World.size_alloc] at ho
  have hRl := h.q.1
  exact ⟨k.p, ⟨k.q, (Bk.new W _ _).keep ((Below.refl _ _).alloc (Nat.le_refl _) _), ho, fun b hb => by
    have e : W.heap.size + 1 = b := by simpa [Value.ownBlock] using hb
    omega⟩, k.u, QF.st hR (by omega) hB⟩
theorem QF.c {F : Nat} (h : Kn B g n cap T s w (fun W => Bk R fldZ W ∧ Bk F fldZ W) W) (hR : R ≠ B) (hB : B < w.heap.size) (hF : w.heap.size ≤ F) (hFR : R ≠ F) (hg : g ≠ F) :
    Kn B g n cap T s w (QF R F w.heap.size S l (.slice (some ⟨W.heap.size, 0, none⟩) 1 1) [.string V]) ((((W.setCell ⟨F, 0, none⟩ (.string S)).setCell ⟨F, 1, none⟩ (.slice (some ⟨W.heap.size, 0, none⟩) 1 1)).setCell ⟨F, 2, none⟩ (.int .i64 l)).alloc (.cells #[.string V] 9)) := by
  have hs := h.u.below.size
  have hp : Prs B g n cap T s (((W.setCell ⟨F, 0, none⟩ (.string S)).setCell ⟨F, 1, none⟩ (.slice (some ⟨W.heap.size, 0, none⟩) 1 1)).setCell ⟨F, 2, none⟩ (.int .i64 l)) := ((h.p.off (by omega) (Ne.symm hg)).off (by omega) (Ne.symm hg)).off (by omega) (Ne.symm hg)
  have hu : Upd B w (((W.setCell ⟨F, 0, none⟩ (.string S)).setCell ⟨F, 1, none⟩ (.slice (some ⟨W.heap.size, 0, none⟩) 1 1)).setCell ⟨F, 2, none⟩ (.int .i64 l)) := ((h.u.off hF (by omega)).off hF (by omega)).off hF (by omega)
  have hr : Bk R fldZ (((W.setCell ⟨F, 0, none⟩ (.string S)).setCell ⟨F, 1, none⟩ (.slice (some ⟨W.heap.size, 0, none⟩) 1 1)).setCell ⟨F, 2, none⟩ (.int .i64 l)) := h.q.1.same (by rw [Below.heap_setCell _ ⟨F, 2, none⟩ _ R hFR, Below.heap_setCell _ ⟨F, 1, none⟩ _ R hFR, Below.heap_setCell _ ⟨F, 0, none⟩ _ R hFR]) (by simp)
  have hf : Bk F #[.string S, .slice (some ⟨W.heap.size, 0, none⟩) 1 1, .int .i64 l] (((W.setCell ⟨F, 0, none⟩ (.string S)).setCell ⟨F, 1, none⟩ (.slice (some ⟨W.heap.size, 0, none⟩) 1 1)).setCell ⟨F, 2, none⟩ (.int .i64 l)) :=
    ((h.q.2.put (o := 0) (by simp [fldZ]) (.string S)).put (o := 1) (by simp [fldZ]) (.slice (some ⟨W.heap.size, 0, none⟩) 1 1)).put (o := 2) (by simp [fldZ]) (.int .i64 l)
  have hz : (((W.setCell ⟨F, 0, none⟩ (.string S)).setCell ⟨F, 1, none⟩ (.slice (some ⟨W.heap.size, 0, none⟩) 1 1)).setCell ⟨F, 2, none⟩ (.int .i64 l)).heap.size = W.heap.size := by simp
  revert hp hu hr hf hz
  generalize (((W.setCell ⟨F, 0, none⟩ (.string S)).setCell ⟨F, 1, none⟩ (.slice (some ⟨W.heap.size, 0, none⟩) 1 1)).setCell ⟨F, 2, none⟩ (.int .i64 l)) = Y
  intro hp hu hr hf hz
  have ho := one_own Y w.heap.size V (by omega)
  rw [hz] at ho
  have hA := (Below.refl Y.heap.size Y).alloc (Nat.le_refl _) (.cells #[.string V] 9)
  have hRl := h.q.1.1
  have hFl := h.q.2.1
  exact ⟨hp.keep hA, ⟨hr.keep hA, hf.keep hA, ho, fun b hb => by
    have e : W.heap.size = b := by simpa [Value.ownBlock] using hb
    omega⟩, hu.trans (Upd.of hA (by omega)), QF.st hR (by omega) hB⟩
end

/-- append(s, x) at a step of a region that draws; x one string just laid in a new block. -/
theorem step_append_str {ops : Array Oper} {o : Oper} {a : Act} {K : Act → World → Prop} {Q : Exit → Act → World → Prop} {E0 : Prop} (hgd : o.guard = none) {s x : Operand}
    (ho : o.op = .call { callee := .builtin .append, args := #[s, x], argTypes := #[40, 40] })
    {w : World} {base : Nat} {v : Value} {n : Nat} {xs : List Value} {b : Nat} {V : ByteArray} (hown : w.ownsRow base 9 1 v n xs)
    (hs : a.eval s = v) (hx : a.eval x = .slice (some ⟨b, 0, none⟩) 1 1) (hc : w.cell? ⟨b, 0, none⟩ = some (.string V))
    (hn : n ≤ 1000000) (hbase : base ≤ w.heap.size)
    (h : ∀ v' w', w'.ownsRow base 9 1 v' (n + 1) (xs ++ [.string V]) → Below base w w' → w.grownBy w' v.ownBlock → (v'.ownBlock = v.ownBlock ∨ ∃ g, v'.ownBlock = some g ∧ w.heap.size ≤ g) → K (a.put o.dst v') w') :
    if Region.wanted o (yielded ops a.tmps) = true then Oper.wp Try.prog o a w K Q else E0 := by
  obtain ⟨i, hi, hz0, hz1, hz2⟩ := info_parts erS.hi
  refine step_append_lies w hgd s x 40 ho base 9 i (.string ⟨#[]⟩) 1 16 erS.ht hi hz0 hz1 hz2 erS.hzs erS.hsz v n xs hs hown ⟨b, 0, none⟩ 1 1 [.string V] hx rfl (fun j u hj => ?_) (fun u hu => by rw [List.mem_singleton.1 hu]; rfl) (by omega) (by unfold maxLen; omega) (by omega) hbase _ rfl fun g cp w' h2 h3 h4 h5 => ?_
  · have hj0 : j = 0 := by
      rcases j with _ | j
      · rfl
      · simp at hj
    subst hj0
    have e : u = .string V := by simpa using hj.symm
    rw [e]
    exact hc
  · have hv : (Value.slice (some ⟨g, 0, none⟩) (n + 1) cp).ownBlock = v.ownBlock ∨ ∃ g', (Value.slice (some ⟨g, 0, none⟩) (n + 1) cp).ownBlock = some g' ∧ w.heap.size ≤ g' := by
      rcases h4 with h4 | h4
      · exact .inl (by rw [h4]; rfl)
      · exact .inr ⟨g, rfl, by omega⟩
    exact h _ w' h2 ((Below.refl base w).grown h3 hbase fun g' hg' => (hown.lt g' hg').1) h3 hv

end Go.Proofs.Ythdcgplocdehjaa
