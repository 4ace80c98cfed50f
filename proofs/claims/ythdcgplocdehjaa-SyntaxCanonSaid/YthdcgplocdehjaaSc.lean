/- The parser: fail, need. -/
import Derived.Test.YthdcgplocdehjaaSb
namespace Go.Proofs.Ythdcgplocdehjaa
open Go.RowKit Go.Proofs.Kit

theorem needS_yes {T : List Tok} {s : St} {kind : Int} {text : List UInt8} (h : isP T s kind text = true) : needS T s kind text = nextP s kind := by unfold needS; rw [if_pos h]
theorem needS_no {T : List Tok} {s : St} {kind : Int} {text : List UInt8} (h : isP T s kind text = false) : needS T s kind text = failP T s := by unfold needS; rw [if_neg (by rw [h]; simp)]
/-- The fault is recorded. -/
theorem Prs.failed {B g n cap : Nat} {T : List Tok} {i l : Nat} {w : World} (h : Prs B g n cap T ⟨i, 0⟩ w) (hl : 1 ≤ l) : Prs B g n cap T ⟨i, l⟩ ((w.setCell ⟨B, 1, none⟩ (.int .i64 1)).setCell ⟨B, 2, none⟩ (.int .i64 l)) := by
  have hh : ((w.setCell ⟨B, 1, none⟩ (.int .i64 1)).setCell ⟨B, 2, none⟩ (.int .i64 l)).heap[g]? = w.heap[g]? := by
    rw [Below.heap_setCell _ ⟨B, 2, none⟩ _ g h.gB, Below.heap_setCell _ ⟨B, 1, none⟩ _ g h.gB]
  have hE : errV ⟨i, l⟩ = 1 := by unfold errV; rw [if_neg (by show ¬ l = 0; omega)]
  have hb := (h.blk.put (o := 1) (by simp) (.int .i64 1)).put (o := 2) (by simp) (.int .i64 l)
  refine ⟨by rw [hE]; exact hb, fun k hk => ⟨(World.cell?_of_block (a := ⟨g, _, none⟩) hh).trans (h.row k hk).1, (World.cell?_of_block (a := ⟨g, _, none⟩) hh).trans (h.row k hk).2.1, (World.cell?_of_block (a := ⟨g, _, none⟩) hh).trans (h.row k hk).2.2⟩, h.gB, by simpa using h.glt, h.i, h.len, h.cap1, h.cap2⟩

set_option maxRecDepth 100000 in
set_option maxHeartbeats 4000000 in
theorem fail_c {B g n cap : Nat} {T : List Tok} {s : St} {w : World} (hT : TOk T) (h : Prs B g n cap T s w) :
    Calls Try.prog 36 #[.pointer (some ⟨B, 0, none⟩)] w fun e w' => e = .returned (.tuple #[]) ∧ Prs B g n cap T (failP T s) w' ∧ Upd B w w' := by
  obtain ⟨k0, k1, k2⟩ := h.blk.three
  obtain ⟨f0, f1, f2⟩ := h.blk.free3
  obtain ⟨i, f⟩ := s
  have hi : i < n := h.i
  have hc1 := h.cap1
  have hc2 := h.cap2
  by_cases hf : f = 0
  · subst hf
    obtain ⟨_, _, c2⟩ := h.row i hi
    have hl := (hT.line i (by rw [h.len]; exact hi)).1
    have hF : failP T ⟨i, 0⟩ = ⟨i, (tk T i).2.2⟩ := by unfold failP; rw [if_pos rfl]
    rw [hF]
    have k1' : w.cell? ⟨B, 1, none⟩ = some (.int .i64 0) := k1
    have HF := Lib.hid (h.failed hl)
    obtain ⟨l, hll⟩ : ∃ l, (tk T i).2.2 = l := ⟨_, rfl⟩
    rw [hll] at c2 HF ⊢
    obtain ⟨m, hm⟩ : ∃ m : Nat, n - i = m + 1 := ⟨n - i - 1, by omega⟩
    obtain ⟨cp, hcp⟩ : ∃ c : Nat, cap - i = c + 1 := ⟨cap - i - 1, by omega⟩
    have k0' := h.head hm hcp
    clear k0 k1 hF hl hll hm hcp
    go_enter Try.func36, Try.ntmps36
    go_wp2_with fail
    go_end0
    exact ⟨rfl, HF.out, ((Upd.refl B w).set 1 _).set 2 _⟩
  · have hF : failP T ⟨i, f⟩ = ⟨i, f⟩ := by unfold failP; rw [if_neg hf]
    rw [hF]
    have k1' : w.cell? ⟨B, 1, none⟩ = some (.int .i64 1) := by rw [k1]; unfold errV; rw [if_neg hf]
    clear k1 hF
    go_enter Try.func36, Try.ntmps36
    go_wp2_with fail
    go_end0
    exact ⟨rfl, h, Upd.refl B w⟩

set_option maxRecDepth 100000 in
set_option maxHeartbeats 4000000 in
theorem need_c {B g n cap : Nat} {T : List Tok} {s : St} {w : World} (hT : TOk T) (h : Prs B g n cap T s w) (kind : Int) (text : ByteArray) :
    Calls Try.prog 18 #[.pointer (some ⟨B, 0, none⟩), .int .i64 kind, .string text] w fun e w' => e = .returned (tokV (takeT T s kind text.toList)) ∧ Prs B g n cap T (needS T s kind text.toList) w' ∧ Upd B w w' := by
  have hBw : B < w.heap.size := h.blk.1
  have hBd : Below w.heap.size w (w.alloc (.cells #[.int .i64 0, .string ⟨#[]⟩, .int .i64 0] 47)) := (Below.refl _ _).alloc (Nat.le_refl _) _
  have R0 := Lib.hid (Bk.new w #[.int .i64 0, .string ⟨#[]⟩, .int .i64 0] 47)
  have h0 := h.keep hBd
  have hg := h.glt
  obtain ⟨W, hW⟩ : ∃ W, w.alloc (.cells #[.int .i64 0, .string ⟨#[]⟩, .int .i64 0] 47) = W := ⟨_, rfl⟩
  rw [hW] at hBd R0 h0
  have HW := Lib.hid hW
  have TA := Lib.hid (take_c hT h0 kind text)
  have FA := Lib.hid (fun w' (g : Prs B g n cap T s w') => fail_c hT g)
  have hs0 := R0.out.1
  obtain ⟨x, hx⟩ : ∃ x, takeT T s kind text.toList = x := ⟨_, rfl⟩
  obtain ⟨S, hS⟩ : ∃ S : ByteArray, (⟨x.2.1.toArray⟩ : ByteArray) = S := ⟨_, rfl⟩
  obtain ⟨k, hk⟩ : ∃ k, x.1 = k := ⟨_, rfl⟩
  obtain ⟨l, hl⟩ : ∃ l, x.2.2 = l := ⟨_, rfl⟩
  have hV : tokV x = .agg #[.int .i64 k, .string S, .int .i64 l] := by unfold tokV; rw [hk, hS, hl]
  rw [hx, hV] at TA ⊢
  clear hW hx hS hk hl hV h0
  obtain ⟨b, hb⟩ : ∃ b, isP T s kind text.toList = b := ⟨_, rfl⟩
  have HB := Lib.hid hb
  cases b
  · rw [takeS_no hb, hb] at TA
    rw [needS_no hb]
    clear hb
    go_enter Try.func18, Try.ntmps18
    go_wp2_with fail
    rw [HW.out]
    go_wp2_with (first
      | (go_at_call 35; ((with_reducible refine (TA.out).mono ?_); rintro e w1 ⟨rfl, hP1, hu1⟩; have hA1 := (Below.refl w1.heap.size w1).alloc (Nat.le_refl _) (.cells #[.int .i64 k, .string S, .int .i64 l] 47); have R1 := Lib.hid (R0.out.upd hu1 (by omega)); have R2 := Lib.hid (R1.out.keep hA1); have hP2 := Lib.hid (hP1.keep hA1); have N2 := Lib.hid (Bk.new w1 #[.int .i64 k, .string S, .int .i64 l] 47); have hs1 := hu1.below.size; have hne : ¬ w1.heap.size = w.heap.size := (by have := R1.out.1; omega); have hne2 : ¬ w.heap.size = w1.heap.size := (by omega); have hu2 := hu1.trans (Upd.of hA1 (by omega))))
      | (go_at_call 36; ((with_reducible refine (FA.out _ hP2.out).mono ?_); rintro e w3 ⟨rfl, hP3, hu3⟩; have R3 := Lib.hid (R2.out.upd hu3 (by omega)); have N3 := Lib.hid (N2.out.upd hu3 (by omega)); obtain ⟨r0, r1, r2⟩ := R3.out.three; obtain ⟨f0, f1, f2⟩ := R3.out.free3; obtain ⟨n0, n1, n2⟩ := N3.out.three)))
    refine bodyPost_ret (v := .agg #[.int .i64 k, .string S, .int .i64 l]) (by simp [results, Try.results18, go_sem, r0, r1, r2]) rfl ?_
    have hU := ((Upd.of hBd (by omega)).trans hu2).trans hu3
    exact ⟨rfl, ((hP3.off (by omega) (by omega)).off (by omega) (by omega)).off (by omega) (by omega), ((hU.off (Nat.le_refl _) (by omega)).off (Nat.le_refl _) (by omega)).off (Nat.le_refl _) (by omega)⟩
  · rw [takeS_yes hb, hb] at TA
    rw [needS_yes hb]
    clear hb
    go_enter Try.func18, Try.ntmps18
    go_wp2_with fail
    rw [HW.out]
    go_wp2_with (first
      | (go_at_call 35; ((with_reducible refine (TA.out).mono ?_); rintro e w1 ⟨rfl, hP1, hu1⟩; have hA1 := (Below.refl w1.heap.size w1).alloc (Nat.le_refl _) (.cells #[.int .i64 k, .string S, .int .i64 l] 47); have R1 := Lib.hid (R0.out.upd hu1 (by omega)); have R2 := Lib.hid (R1.out.keep hA1); have hP2 := Lib.hid (hP1.keep hA1); have hs1 := hu1.below.size; have hne : ¬ w1.heap.size = w.heap.size := (by have := R1.out.1; omega); have hne2 : ¬ w.heap.size = w1.heap.size := (by omega); have hu2 := hu1.trans (Upd.of hA1 (by omega)); obtain ⟨r0, r1, r2⟩ := R2.out.three; obtain ⟨f0, f1, f2⟩ := R2.out.free3)))
    refine bodyPost_ret (v := .agg #[.int .i64 k, .string S, .int .i64 l]) (by simp [results, Try.results18, go_sem, r0, r1, r2]) rfl ?_
    have hU := (Upd.of hBd (by omega)).trans hu2
    exact ⟨rfl, ((hP2.out.off (by omega) (by omega)).off (by omega) (by omega)).off (by omega) (by omega), ((hU.off (Nat.le_refl _) (by omega)).off (Nat.le_refl _) (by omega)).off (Nat.le_refl _) (by omega)⟩

end Go.Proofs.Ythdcgplocdehjaa
