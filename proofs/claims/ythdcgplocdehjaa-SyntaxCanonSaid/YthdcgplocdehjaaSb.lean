/- The parser: take, fail, need. -/
import Derived.Test.YthdcgplocdehjaaSa
namespace Go.Proofs.Ythdcgplocdehjaa
open Go.RowKit Go.Proofs.Kit

def tokV (t : Tok) : Value := .agg #[.int .i64 t.1, .string ⟨t.2.1.toArray⟩, .int .i64 t.2.2]
theorem takeT_yes {T : List Tok} {s : St} {kind : Int} {text : List UInt8} (h : isP T s kind text = true) : takeT T s kind text = tk T s.i := by unfold takeT; rw [if_pos h]
theorem takeT_no {T : List Tok} {s : St} {kind : Int} {text : List UInt8} (h : isP T s kind text = false) : takeT T s kind text = tok0 := by unfold takeT; rw [if_neg (by rw [h]; simp)]
theorem takeS_yes {T : List Tok} {s : St} {kind : Int} {text : List UInt8} (h : isP T s kind text = true) : takeS T s kind text = nextP s kind := by unfold takeS; rw [if_pos h]
theorem takeS_no {T : List Tok} {s : St} {kind : Int} {text : List UInt8} (h : isP T s kind text = false) : takeS T s kind text = s := by unfold takeS; rw [if_neg (by rw [h]; simp)]
theorem isP_kind {T : List Tok} {s : St} {kind : Int} {text : List UInt8} (h : isP T s kind text = true) : s.f = 0 ∧ (tk T s.i).1 = kind := by
  unfold isP at h
  simp only [Bool.and_eq_true, beq_iff_eq] at h
  exact h.1
/-- The next token is taken. -/
theorem Prs.next {B g n cap : Nat} {T : List Tok} {i f : Nat} {w : World} (h : Prs B g n cap T ⟨i, f⟩ w) (hi : i + 1 < n) {v : Value} (hv : v = .slice (some ⟨g, (i + 1) * 3, none⟩) (n - (i + 1)) (cap - (i + 1))) :
    Prs B g n cap T ⟨i + 1, f⟩ (w.setCell ⟨B, 0, none⟩ v) := by
  subst hv
  have hh : (w.setCell ⟨B, 0, none⟩ (.slice (some ⟨g, (i + 1) * 3, none⟩) (n - (i + 1)) (cap - (i + 1)))).heap[g]? = w.heap[g]? := Below.heap_setCell _ ⟨B, 0, none⟩ _ g h.gB
  refine ⟨h.blk.put (o := 0) (by simp) _, fun k hk => ⟨(World.cell?_of_block (a := ⟨g, _, none⟩) hh).trans (h.row k hk).1, (World.cell?_of_block (a := ⟨g, _, none⟩) hh).trans (h.row k hk).2.1, (World.cell?_of_block (a := ⟨g, _, none⟩) hh).trans (h.row k hk).2.2⟩, h.gB, by simpa using h.glt, hi, h.len, h.cap1, h.cap2⟩

theorem Prs.off {B g n cap : Nat} {T : List Tok} {s : St} {w : World} (h : Prs B g n cap T s w) {b o : Nat} {v : Value} (h1 : b ≠ B) (h2 : b ≠ g) : Prs B g n cap T s (w.setCell ⟨b, o, none⟩ v) :=
  h.same (Below.heap_setCell _ ⟨b, o, none⟩ _ B h1.symm) (Below.heap_setCell _ ⟨b, o, none⟩ _ g h2.symm) (by simp)
theorem Prs.head {B g n cap i f m c : Nat} {T : List Tok} {w : World} (h : Prs B g n cap T ⟨i, f⟩ w) (hm : n - i = m) (hc : cap - i = c) : w.cell? ⟨B, 0, none⟩ = some (.slice (some ⟨g, i * 3, none⟩) m c) := by
  subst hm
  subst hc
  exact h.blk.three.1
theorem Upd.off {B : Nat} {w w' : World} (h : Upd B w w') {b o : Nat} {v : Value} (h1 : w.heap.size ≤ b) (h2 : B ≤ b) : Upd B w (w'.setCell ⟨b, o, none⟩ v) :=
  ⟨fun k hk hne => by rw [Below.heap_setCell _ ⟨b, o, none⟩ v k (by show k ≠ b; omega)]; exact h.heap k hk hne, h.below.setCell h2 v⟩
theorem bel3 {w0 w w' : World} (h : Below w0.heap.size w0 w) (h2 : Below w.heap.size w w') : Below w0.heap.size w0 w' := h.trans (h2.mono h.size)

set_option maxRecDepth 100000 in
set_option maxHeartbeats 4000000 in
theorem take_c {B g n cap : Nat} {T : List Tok} {s : St} {w : World} (hT : TOk T) (h : Prs B g n cap T s w) (kind : Int) (text : ByteArray) :
    Calls Try.prog 35 #[.pointer (some ⟨B, 0, none⟩), .int .i64 kind, .string text] w fun e w' => e = .returned (.tuple #[tokV (takeT T s kind text.toList), .bool (isP T s kind text.toList)]) ∧ Prs B g n cap T (takeS T s kind text.toList) w' ∧ Upd B w w' := by
  have hBw : B < w.heap.size := h.blk.1
  have hBd : Below w.heap.size w (w.alloc (.cells #[.int .i64 0, .string ⟨#[]⟩, .int .i64 0] 47)) := (Below.refl _ _).alloc (Nat.le_refl _) _
  have R0 := Lib.hid (Bk.new w #[.int .i64 0, .string ⟨#[]⟩, .int .i64 0] 47)
  have h0 := Lib.hid (h.keep hBd)
  obtain ⟨W, hW⟩ : ∃ W, w.alloc (.cells #[.int .i64 0, .string ⟨#[]⟩, .int .i64 0] 47) = W := ⟨_, rfl⟩
  rw [hW] at hBd R0 h0
  have HW := Lib.hid hW
  clear hW
  obtain ⟨b, hb⟩ : ∃ b, isP T s kind text.toList = b := ⟨_, rfl⟩
  have IS := Lib.hid (is_c h0.out kind text)
  rw [hb] at IS ⊢
  cases b
  · rw [takeT_no hb, takeS_no hb]
    have HB := Lib.hid hb
    clear hb
    go_enter Try.func35, Try.ntmps35
    go_wp2_with fail
    rw [HW.out]
    go_wp2_with (go_at_call 19; ((with_reducible refine (IS.out).mono ?_); rintro e w1 ⟨rfl, hb1⟩; obtain ⟨r0, r1, r2⟩ := (R0.out.keep hb1).three; obtain ⟨f0, f1, f2⟩ := (R0.out.keep hb1).free3))
    refine bodyPost_ret (v := .tuple #[tokV tok0, .bool false]) (by simp [results, Try.results35, go_sem, tokV, tok0, r0, r1, r2]) rfl ?_
    have hP1 := h0.out.keep hb1
    have hg := h.glt
    exact ⟨rfl, ((hP1.off (by omega) (by omega)).off (by omega) (by omega)).off (by omega) (by omega), (((Upd.of (bel3 hBd hb1) (by omega)).off (Nat.le_refl _) (by omega)).off (Nat.le_refl _) (by omega)).off (Nat.le_refl _) (by omega)⟩
  · obtain ⟨hf, hk⟩ := isP_kind hb
    rw [takeT_yes hb, takeS_yes hb]
    have HB := Lib.hid hb
    obtain ⟨i, f⟩ := s
    simp only at hf hk ⊢
    obtain ⟨x, hx⟩ : ∃ x, tk T i = x := ⟨_, rfl⟩
    obtain ⟨S, hS⟩ : ∃ S : ByteArray, (⟨x.2.1.toArray⟩ : ByteArray) = S := ⟨_, rfl⟩
    obtain ⟨l, hl⟩ : ∃ l, x.2.2 = l := ⟨_, rfl⟩
    have hi : i < n := h.i
    have hc1 := h.cap1
    have hc2 := h.cap2
    have hg := h.glt
    have hTV : Hid (tokV x = .agg #[.int .i64 kind, .string S, .int .i64 l]) := Lib.hid (by unfold tokV; rw [hS, hl, ← hk, hx])
    rw [hx, hTV.out]
    have HIl : Hid (kind ≠ 5 → i + 1 < n) := Lib.hid (fun g => by rw [← h.len]; exact hT.last i (by rw [h.len]; exact hi) (by rw [hk]; exact g))
    have HR : Hid (∀ w', Prs B g n cap T ⟨i, f⟩ w' → w'.cell? ⟨g, i * 3, none⟩ = some (.int .i64 kind) ∧ w'.cell? ⟨g, i * 3 + 1, none⟩ = some (.string S) ∧ w'.cell? ⟨g, i * 3 + 2, none⟩ = some (.int .i64 l)) := Lib.hid (fun w' h' => by
      have := h'.row i hi
      rw [hk, hx, hS, hl] at this
      exact this)
    clear hb hf hx hS hl
    by_cases h5 : kind = 5
    · subst h5
      have hN : nextP ⟨i, f⟩ 5 = ⟨i, f⟩ := by unfold nextP; rw [if_pos rfl]
      rw [hN]
      obtain ⟨m, hm⟩ : ∃ m : Nat, n - i = m + 1 := ⟨n - i - 1, by omega⟩
      obtain ⟨cp, hcp⟩ : ∃ c : Nat, cap - i = c + 1 := ⟨cap - i - 1, by omega⟩
      have HM := Lib.hid (And.intro hm hcp)
      clear hm hcp hN hk
      go_enter Try.func35, Try.ntmps35
      go_wp2_with fail
      rw [HW.out]
      go_wp2_with (go_at_call 19; ((with_reducible refine (IS.out).mono ?_); rintro e w1 ⟨rfl, hb1⟩; have hA1 := (Below.refl w1.heap.size w1).alloc (Nat.le_refl _) (.cells #[.int .i64 5, .string S, .int .i64 l] 47); obtain ⟨r0, r1, r2⟩ := ((R0.out.keep hb1).keep hA1).three; obtain ⟨f0, f1, f2⟩ := ((R0.out.keep hb1).keep hA1).free3; have hP1 := Lib.hid (h0.out.keep hb1); have hs1 := hb1.size; have hs0 := R0.out.1; have hne : ¬ w1.heap.size = w.heap.size := (by omega); have hne2 : ¬ w.heap.size = w1.heap.size := (by omega); have k0 := hP1.out.head HM.out.1 HM.out.2; obtain ⟨c0, c1, c2⟩ := HR.out _ hP1.out))
      refine bodyPost_ret (v := .tuple #[.agg #[.int .i64 5, .string S, .int .i64 l], .bool true]) (by simp [results, Try.results35, go_sem, r0, r1, r2]) rfl ?_
      exact ⟨rfl, (((hP1.out.keep hA1).off (by omega) (by omega)).off (by omega) (by omega)).off (by omega) (by omega), (((Upd.of ((bel3 hBd hb1).trans (hA1.mono (by omega))) (by omega)).off (Nat.le_refl _) (by omega)).off (Nat.le_refl _) (by omega)).off (Nat.le_refl _) (by omega)⟩
    · have h5b : (kind != 5) = true := by rw [bne_iff_ne]; exact h5
      have hi2 := HIl.out h5
      have hN : nextP ⟨i, f⟩ kind = ⟨i + 1, f⟩ := by unfold nextP; rw [if_neg h5]
      rw [hN]
      obtain ⟨m, hm⟩ : ∃ m : Nat, n - i = m + 2 := ⟨n - i - 2, by omega⟩
      obtain ⟨cp, hcp⟩ : ∃ c : Nat, cap - i = c + 2 := ⟨cap - i - 2, by omega⟩
      have HM := Lib.hid (And.intro hm hcp)
      have HV : Hid (Value.slice (some ⟨g, i * 3 + 3, none⟩) (m + 1) (cp + 1) = .slice (some ⟨g, (i + 1) * 3, none⟩) (n - (i + 1)) (cap - (i + 1))) := Lib.hid (by
        rw [show n - (i + 1) = m + 1 by omega, show cap - (i + 1) = cp + 1 by omega, show (i + 1) * 3 = i * 3 + 3 by omega])
      clear hm hcp hN hk
      have hBR : ¬ B = w.heap.size := by omega
      have hBR2 : ¬ w.heap.size = B := by omega
      go_enter Try.func35, Try.ntmps35
      go_wp2_with fail
      rw [HW.out]
      go_wp2_with (go_at_call 19; ((with_reducible refine (IS.out).mono ?_); rintro e w1 ⟨rfl, hb1⟩; have hA1 := (Below.refl w1.heap.size w1).alloc (Nat.le_refl _) (.cells #[.int .i64 kind, .string S, .int .i64 l] 47); obtain ⟨r0, r1, r2⟩ := ((R0.out.keep hb1).keep hA1).three; obtain ⟨f0, f1, f2⟩ := ((R0.out.keep hb1).keep hA1).free3; have hP1 := Lib.hid (h0.out.keep hb1); have hP2 := Lib.hid (hP1.out.keep hA1); have hs1 := hb1.size; have hs0 := R0.out.1; have hne : ¬ w1.heap.size = w.heap.size := (by omega); have hne2 : ¬ w.heap.size = w1.heap.size := (by omega); have hne3 : ¬ B = w1.heap.size := (by omega); have hne4 : ¬ w1.heap.size = B := (by omega); have k0 := hP1.out.head HM.out.1 HM.out.2; have k1 := hP2.out.head HM.out.1 HM.out.2; have k2 := hP2.out.blk.free3.1; obtain ⟨c0, c1, c2⟩ := HR.out _ hP1.out))
      refine bodyPost_ret (v := .tuple #[.agg #[.int .i64 kind, .string S, .int .i64 l], .bool true]) (by simp [results, Try.results35, go_sem, r0, r1, r2]) rfl ?_
      exact ⟨rfl, (((hP2.out.next hi2 HV.out).off (by omega) (by omega)).off (by omega) (by omega)).off (by omega) (by omega), ((((Upd.of ((bel3 hBd hb1).trans (hA1.mono (by omega))) (by omega)).set 0 _).off (Nat.le_refl _) (by omega)).off (Nat.le_refl _) (by omega)).off (Nat.le_refl _) (by omega)⟩

end Go.Proofs.Ythdcgplocdehjaa
