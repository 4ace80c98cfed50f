/- The reference's reader: its state; at. -/
import Derived.Test.YthdcgplocdehjaaSk
namespace Go.Proofs.Ythdcgplocdehjaa
open Go.RowKit Go.Proofs.Kit

/-- A reader lies in block B: its tokens are the row g. -/
structure Rdr (B g n cap : Nat) (T : List Tok) (s : St) (w : World) : Prop where
  blk : Bk B #[.slice (some ⟨g, 0, none⟩) n cap, .int .i64 s.i, .int .i64 s.f] w
  row : ∀ k, k < n → w.cell? ⟨g, k * 3, none⟩ = some (.int .i64 (tk T k).1) ∧ w.cell? ⟨g, k * 3 + 1, none⟩ = some (.string ⟨(tk T k).2.1.toArray⟩) ∧ w.cell? ⟨g, k * 3 + 2, none⟩ = some (.int .i64 (tk T k).2.2)
  gB : g ≠ B
  glt : g < w.heap.size
  i : s.i < n
  len : T.length = n
  cap1 : n ≤ cap
  cap2 : cap ≤ 9223372036854775807
theorem Rdr.same {B g n cap : Nat} {T : List Tok} {s : St} {w w' : World} (h : Rdr B g n cap T s w) (h1 : w'.heap[B]? = w.heap[B]?) (h2 : w'.heap[g]? = w.heap[g]?) (hs : w.heap.size ≤ w'.heap.size) : Rdr B g n cap T s w' :=
  ⟨h.blk.same h1 hs, fun k hk => ⟨(World.cell?_of_block (a := ⟨g, _, none⟩) h2).trans (h.row k hk).1, (World.cell?_of_block (a := ⟨g, _, none⟩) h2).trans (h.row k hk).2.1, (World.cell?_of_block (a := ⟨g, _, none⟩) h2).trans (h.row k hk).2.2⟩, h.gB, Nat.lt_of_lt_of_le h.glt hs, h.i, h.len, h.cap1, h.cap2⟩
theorem Rdr.keep {B g n cap : Nat} {T : List Tok} {s : St} {w w' : World} (h : Rdr B g n cap T s w) (hb : Below w.heap.size w w') : Rdr B g n cap T s w' := h.same (hb.block B h.blk.1) (hb.block g h.glt) hb.size

set_option maxRecDepth 100000 in
set_option maxHeartbeats 4000000 in
theorem at_c {B g n cap : Nat} {T : List Tok} {s : St} {w : World} (hT : TOk T) (h : Rdr B g n cap T s w) (kind : Int) (text : ByteArray) :
    Calls Try.prog 22 #[.pointer (some ⟨B, 0, none⟩), .int .i64 kind, .string text] w fun e w' => e = .returned (.bool (isP T s kind text.toList)) ∧ Below w.heap.size w w' := by
  have hTn := hT.num
  have hln := h.len
  obtain ⟨k0, k1, k2⟩ := h.blk.three
  obtain ⟨c0, c1, c2⟩ := h.row s.i h.i
  have hi := h.i
  have hc1 := h.cap1
  have hc2 := h.cap2
  obtain ⟨i, f⟩ := s
  simp only at k0 k1 k2 c0 c1 c2 hi
  obtain ⟨x, hx⟩ : ∃ x, (tk T i).1 = x := ⟨_, rfl⟩
  obtain ⟨S, hS⟩ : ∃ S : ByteArray, (⟨(tk T i).2.1.toArray⟩ : ByteArray) = S := ⟨_, rfl⟩
  have HI : Hid (isP T ⟨i, f⟩ kind text.toList = (f == 0 && (x == kind) && (text.toList.isEmpty || (S.toList == text.toList)))) := Lib.hid (by
    have e : S.toList = (tk T i).2.1 := by rw [← hS, Lib.toList_data]
    rw [e, ← hx]
    rfl)
  rw [HI.out]
  rw [hx] at c0
  rw [hS] at c1
  have iz : (i : Int) < (n : Int) := by omega
  have iz0 : (0 : Int) ≤ (i : Int) := by omega
  clear hx hS HI h hT hTn hln
  by_cases hf : f = 0
  · subst hf
    by_cases hk : x = kind
    · subst hk
      by_cases ht : text.toList = []
      · have ht2 : text.toList.isEmpty = true := by rw [ht]; rfl
        go_enter Try.func22, Try.ntmps22
        go_wp2_with fail
        go_quiet (fail)
        go_wp2_with fail
        go_ret
        exact ⟨by simp [ht], below_drewN (Below.refl _ _) _⟩
      · have ht2 : text.toList.isEmpty = false := by rw [Bool.eq_false_iff]; intro h; exact ht (List.isEmpty_iff.1 h)
        cases hq : (S.toList == text.toList)
        all_goals
          go_enter Try.func22, Try.ntmps22
          go_wp2_with fail
          go_quiet (fail)
          go_wp2_with fail
          go_ret
          exact ⟨by simp [ht]; try simpa using hq, below_drewN (Below.refl _ _) _⟩
    · have hk2 : (x == kind) = false := by rw [beq_eq_false_iff_ne]; exact hk
      go_enter Try.func22, Try.ntmps22
      go_wp2_with fail
      go_quiet (fail)
      go_wp2_with fail
      go_ret
      exact ⟨by simp [hk], below_drewN (Below.refl _ _) _⟩
  · have hf2 : (f == 0) = false := by rw [beq_eq_false_iff_ne]; exact hf
    have hf3 : ((f : Int) == 0) = false := by rw [beq_eq_false_iff_ne]; omega
    go_enter Try.func22, Try.ntmps22
    go_wp2_with fail
    go_quiet (fail)
    go_wp2_with fail
    go_ret
    exact ⟨by simp [hf], below_drewN (Below.refl _ _) _⟩

end Go.Proofs.Ythdcgplocdehjaa
