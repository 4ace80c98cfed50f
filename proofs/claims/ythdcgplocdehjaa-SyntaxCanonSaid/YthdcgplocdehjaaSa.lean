/- The parser: its state, its test. -/
import Derived.Test.YthdcgplocdehjaaLxWh
import Derived.Test.YthdcgplocdehjaaKR
namespace Go.Proofs.Ythdcgplocdehjaa
open Go.RowKit Go.Proofs.Kit

/-- The state of a parser: the next token, and the line of the fault (0: none). -/
structure St where
  i : Nat
  f : Nat
def tok0 : Tok := (0, [], 0)
def tk (T : List Tok) (i : Nat) : Tok := T.getD i tok0
def isP (T : List Tok) (s : St) (kind : Int) (text : List UInt8) : Bool := s.f == 0 && ((tk T s.i).1 == kind) && (text.isEmpty || ((tk T s.i).2.1 == text))
def nextP (s : St) (kind : Int) : St := if kind = 5 then s else ⟨s.i + 1, s.f⟩
def failP (T : List Tok) (s : St) : St := if s.f = 0 then ⟨s.i, (tk T s.i).2.2⟩ else s
def takeT (T : List Tok) (s : St) (kind : Int) (text : List UInt8) : Tok := if isP T s kind text then tk T s.i else tok0
def takeS (T : List Tok) (s : St) (kind : Int) (text : List UInt8) : St := if isP T s kind text then nextP s kind else s
def needS (T : List Tok) (s : St) (kind : Int) (text : List UInt8) : St := if isP T s kind text then nextP s kind else failP T s

/-- What the lexer's tokens are. -/
structure TOk (T : List Tok) : Prop where
  pos : 0 < T.length
  num : T.length ≤ 20001
  last : ∀ i, i < T.length → (tk T i).1 ≠ 5 → i + 1 < T.length
  line : ∀ i, i < T.length → 1 ≤ (tk T i).2.2 ∧ (tk T i).2.2 ≤ 20001
  size : ∀ i, i < T.length → (tk T i).2.1.length ≤ 20000

/-- Only block B was written. -/
structure Upd (B : Nat) (w w' : World) : Prop where
  heap : ∀ k, k < w.heap.size → k ≠ B → w'.heap[k]? = w.heap[k]?
  below : Below B w w'
theorem Upd.refl (B : Nat) (w : World) : Upd B w w := ⟨fun _ _ _ => rfl, Below.refl _ _⟩
theorem Upd.trans {B : Nat} {w w' w2 : World} (h : Upd B w w') (k : Upd B w' w2) : Upd B w w2 :=
  ⟨fun b h1 h2 => (k.heap b (Nat.lt_of_lt_of_le h1 h.below.size) h2).trans (h.heap b h1 h2), h.below.trans k.below⟩
theorem Upd.of {B : Nat} {w w' : World} (hb : Below w.heap.size w w') (hB : B ≤ w.heap.size) : Upd B w w' :=
  ⟨fun b h1 _ => hb.block b h1, hb.mono hB⟩
theorem Upd.set {B : Nat} {w w' : World} (h : Upd B w w') (o : Nat) (v : Value) : Upd B w (w'.setCell ⟨B, o, none⟩ v) :=
  ⟨fun k h1 hk => by rw [Below.heap_setCell _ ⟨B, o, none⟩ v k hk]; exact h.heap k h1 hk, h.below.setCell (Nat.le_refl _) v⟩

theorem cell_other {w : World} {b o o' : Nat} {v : Value} (h : o ≠ o') : (w.setCell ⟨b, o, none⟩ v).cell? ⟨b, o', none⟩ = w.cell? ⟨b, o', none⟩ :=
  World.cell?_setCell_other w ⟨b, o, none⟩ ⟨b, o', none⟩ v (fun e => h (by injection e))
theorem cell_same {w : World} {b o : Nat} {u v : Value} (h : w.cell? ⟨b, o, none⟩ = some u) : (w.setCell ⟨b, o, none⟩ v).cell? ⟨b, o, none⟩ = some v :=
  World.cell?_setCell_same w ⟨b, o, none⟩ v h
/-- A block of memory. -/
def Bk (b : Nat) (cs : Array Value) (w : World) : Prop := b < w.heap.size ∧ (∀ o, w.cell? ⟨b, o, none⟩ = cs[o]?) ∧ ∀ o, w.frozen? ⟨b, o, none⟩ = false
theorem Bk.new (w : World) (cs : Array Value) (T : TypeId) : Bk w.heap.size cs (w.alloc (.cells cs T)) :=
  ⟨by simp, fun o => cell_alloc_new w cs T (0, 0) o, fun o => by
    have h := heap_alloc_new w (.cells cs T)
    unfold World.frozen?
    rw [h]
    simp⟩
theorem Bk.same {b : Nat} {cs : Array Value} {w w' : World} (h : Bk b cs w) (hh : w'.heap[b]? = w.heap[b]?) (hs : w.heap.size ≤ w'.heap.size) : Bk b cs w' :=
  ⟨Nat.lt_of_lt_of_le h.1 hs, fun o => (World.cell?_of_block (a := ⟨b, o, none⟩) hh).trans (h.2.1 o), fun o => (World.frozen?_of_block (a := ⟨b, o, none⟩) hh).trans (h.2.2 o)⟩
theorem Bk.keep {b : Nat} {cs : Array Value} {w w' : World} (h : Bk b cs w) (hb : Below w.heap.size w w') : Bk b cs w' := h.same (hb.block b h.1) hb.size
theorem Bk.upd {B b : Nat} {cs : Array Value} {w w' : World} (h : Bk b cs w) (hu : Upd B w w') (hne : b ≠ B) : Bk b cs w' := h.same (hu.heap b h.1 hne) hu.below.size
theorem Bk.put {b : Nat} {cs : Array Value} {w : World} (h : Bk b cs w) {o : Nat} (ho : o < cs.size) (v : Value) : Bk b (cs.set o v ho) (w.setCell ⟨b, o, none⟩ v) := by
  refine ⟨by simpa [World.size_setCell] using h.1, fun p => ?_, fun p => ?_⟩
  · by_cases hp : o = p
    · subst hp
      rw [cell_same (u := cs[o]) (by rw [h.2.1]; exact Array.getElem?_eq_getElem ho)]
      simp
    · rw [cell_other hp, h.2.1, Array.getElem?_set_ne ho hp]
  · rw [World.frozen?_setCell]; exact h.2.2 p
theorem Bk.three {b : Nat} {x y z : Value} {w : World} (h : Bk b #[x, y, z] w) : w.cell? ⟨b, 0, none⟩ = some x ∧ w.cell? ⟨b, 1, none⟩ = some y ∧ w.cell? ⟨b, 2, none⟩ = some z := ⟨h.2.1 0, h.2.1 1, h.2.1 2⟩
theorem Bk.free3 {b : Nat} {cs : Array Value} {w : World} (h : Bk b cs w) : w.frozen? ⟨b, 0, none⟩ = false ∧ w.frozen? ⟨b, 1, none⟩ = false ∧ w.frozen? ⟨b, 2, none⟩ = false := ⟨h.2.2 0, h.2.2 1, h.2.2 2⟩

def errV (s : St) : Int := if s.f = 0 then 0 else 1
/-- A parser lies in block B: its tokens are those from the i-th on of the row g. -/
structure Prs (B g n cap : Nat) (T : List Tok) (s : St) (w : World) : Prop where
  blk : Bk B #[.slice (some ⟨g, s.i * 3, none⟩) (n - s.i) (cap - s.i), .int .i64 (errV s), .int .i64 s.f] w
  row : ∀ k, k < n → w.cell? ⟨g, k * 3, none⟩ = some (.int .i64 (tk T k).1) ∧ w.cell? ⟨g, k * 3 + 1, none⟩ = some (.string ⟨(tk T k).2.1.toArray⟩) ∧ w.cell? ⟨g, k * 3 + 2, none⟩ = some (.int .i64 (tk T k).2.2)
  gB : g ≠ B
  glt : g < w.heap.size
  i : s.i < n
  len : T.length = n
  cap1 : n ≤ cap
  cap2 : cap ≤ 9223372036854775807
theorem Prs.same {B g n cap : Nat} {T : List Tok} {s : St} {w w' : World} (h : Prs B g n cap T s w) (h1 : w'.heap[B]? = w.heap[B]?) (h2 : w'.heap[g]? = w.heap[g]?) (hs : w.heap.size ≤ w'.heap.size) : Prs B g n cap T s w' :=
  ⟨h.blk.same h1 hs, fun k hk => ⟨(World.cell?_of_block (a := ⟨g, _, none⟩) h2).trans (h.row k hk).1, (World.cell?_of_block (a := ⟨g, _, none⟩) h2).trans (h.row k hk).2.1, (World.cell?_of_block (a := ⟨g, _, none⟩) h2).trans (h.row k hk).2.2⟩, h.gB, Nat.lt_of_lt_of_le h.glt hs, h.i, h.len, h.cap1, h.cap2⟩
theorem Prs.keep {B g n cap : Nat} {T : List Tok} {s : St} {w w' : World} (h : Prs B g n cap T s w) (hb : Below w.heap.size w w') : Prs B g n cap T s w' := h.same (hb.block B h.blk.1) (hb.block g h.glt) hb.size

theorem isP_fault {T : List Tok} {s : St} {kind : Int} {text : List UInt8} (h : s.f ≠ 0) : isP T s kind text = false := by unfold isP; simp [h]

set_option maxRecDepth 100000 in
set_option maxHeartbeats 4000000 in
theorem is_c {B g n cap : Nat} {T : List Tok} {s : St} {w : World} (h : Prs B g n cap T s w) (kind : Int) (text : ByteArray) :
    Calls Try.prog 19 #[.pointer (some ⟨B, 0, none⟩), .int .i64 kind, .string text] w fun e w' => e = .returned (.bool (isP T s kind text.toList)) ∧ Below w.heap.size w w' := by
  obtain ⟨k0, k1, k2⟩ := h.blk.three
  obtain ⟨c0, c1, c2⟩ := h.row s.i h.i
  have hi := h.i
  have hc1 := h.cap1
  have hc2 := h.cap2
  obtain ⟨i, f⟩ := s
  simp only at k0 k1 k2 c0 c1 c2 hi
  obtain ⟨x, hx⟩ : ∃ x, (tk T i).1 = x := ⟨_, rfl⟩
  obtain ⟨S, hS⟩ : ∃ S : ByteArray, (⟨(tk T i).2.1.toArray⟩ : ByteArray) = S := ⟨_, rfl⟩
  obtain ⟨l, hl⟩ : ∃ l, (tk T i).2.2 = l := ⟨_, rfl⟩
  have HI : Hid (isP T ⟨i, f⟩ kind text.toList = (f == 0 && (x == kind) && (text.toList.isEmpty || (S.toList == text.toList)))) := Lib.hid (by
    have e : S.toList = (tk T i).2.1 := by rw [← hS, Lib.toList_data]
    rw [e, ← hx]
    rfl)
  rw [HI.out]
  rw [hx] at c0
  rw [hS] at c1
  rw [hl] at c2
  obtain ⟨m, hm⟩ : ∃ m : Nat, n - i = m + 1 := ⟨n - i - 1, by omega⟩
  obtain ⟨cp, hcp⟩ : ∃ c : Nat, cap - i = c + 1 := ⟨cap - i - 1, by omega⟩
  rw [hm, hcp] at k0
  have e0 := cell_alloc_old (o := .cells #[.int .i64 x, .string S, .int .i64 l] 47) k0
  have e1 := cell_alloc_old (o := .cells #[.int .i64 x, .string S, .int .i64 l] 47) k1
  have hb : Below w.heap.size w (w.alloc (.cells #[.int .i64 x, .string S, .int .i64 l] 47)) := (Below.refl _ _).alloc (Nat.le_refl _) _
  have q1 : ¬ ((m : Int) + 1 ≤ 0) := by omega
  clear hm hcp hx hS hl HI h k1 k2
  by_cases hf : f = 0
  · subst hf
    have e1' : (w.alloc (.cells #[.int .i64 x, .string S, .int .i64 l] 47)).cell? ⟨B, 1, none⟩ = some (.int .i64 0) := e1
    clear e1
    by_cases hk : x = kind
    · subst hk
      by_cases ht : text.toList = []
      · have ht2 : text.toList.isEmpty = true := by rw [ht]; rfl
        go_enter Try.func19, Try.ntmps19
        go_wp2_with fail
        go_ret
        exact ⟨by simp, hb⟩
      · have ht2 : text.toList.isEmpty = false := by rw [Bool.eq_false_iff]; intro h; exact ht (List.isEmpty_iff.1 h)
        cases hq : (S.toList == text.toList)
        all_goals
          go_enter Try.func19, Try.ntmps19
          go_wp2_with fail
          go_ret
          exact ⟨by simp, hb⟩
    · have hk2 : (x == kind) = false := by rw [beq_eq_false_iff_ne]; exact hk
      go_enter Try.func19, Try.ntmps19
      go_wp2_with fail
      go_ret
      exact ⟨by simp, hb⟩
  · have e1' : (w.alloc (.cells #[.int .i64 x, .string S, .int .i64 l] 47)).cell? ⟨B, 1, none⟩ = some (.int .i64 1) := by rw [e1]; unfold errV; rw [if_neg hf]
    have hf2 : (f == 0) = false := by rw [beq_eq_false_iff_ne]; exact hf
    clear e1
    go_enter Try.func19, Try.ntmps19
    go_wp2_with fail
    go_ret
    exact ⟨by simp, hb⟩

end Go.Proofs.Ythdcgplocdehjaa
