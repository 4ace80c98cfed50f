/- The reference's reader: take. -/
import Derived.Test.YthdcgplocdehjaaQa
namespace Go.Proofs.Ythdcgplocdehjaa
open Go.RowKit Go.Proofs.Kit

theorem Rdr.failed {B g n cap : Nat} {T : List Tok} {i f : Nat} {w : World} (h : Rdr B g n cap T ⟨i, f⟩ w) (l : Nat) : Rdr B g n cap T ⟨i, l⟩ (w.setCell ⟨B, 2, none⟩ (.int .i64 l)) := by
  have hh : (w.setCell ⟨B, 2, none⟩ (.int .i64 l)).heap[g]? = w.heap[g]? := Below.heap_setCell _ ⟨B, 2, none⟩ _ g h.gB
  exact ⟨h.blk.put (o := 2) (by simp) (.int .i64 l), fun k hk => ⟨(World.cell?_of_block (a := ⟨g, _, none⟩) hh).trans (h.row k hk).1, (World.cell?_of_block (a := ⟨g, _, none⟩) hh).trans (h.row k hk).2.1, (World.cell?_of_block (a := ⟨g, _, none⟩) hh).trans (h.row k hk).2.2⟩, h.gB, by simpa using h.glt, h.i, h.len, h.cap1, h.cap2⟩
theorem Rdr.next {B g n cap : Nat} {T : List Tok} {i f : Nat} {w : World} (h : Rdr B g n cap T ⟨i, f⟩ w) (hi : i + 1 < n) {z : Int} (hz : z = ((i + 1 : Nat) : Int)) : Rdr B g n cap T ⟨i + 1, f⟩ (w.setCell ⟨B, 1, none⟩ (.int .i64 z)) := by
  subst hz
  have hh : (w.setCell ⟨B, 1, none⟩ (.int .i64 ((i + 1 : Nat) : Int))).heap[g]? = w.heap[g]? := Below.heap_setCell _ ⟨B, 1, none⟩ _ g h.gB
  exact ⟨h.blk.put (o := 1) (by simp) (.int .i64 ((i + 1 : Nat) : Int)), fun k hk => ⟨(World.cell?_of_block (a := ⟨g, _, none⟩) hh).trans (h.row k hk).1, (World.cell?_of_block (a := ⟨g, _, none⟩) hh).trans (h.row k hk).2.1, (World.cell?_of_block (a := ⟨g, _, none⟩) hh).trans (h.row k hk).2.2⟩, h.gB, by simpa using h.glt, hi, h.len, h.cap1, h.cap2⟩

theorem rdr_out {B g n cap : Nat} {T : List Tok} {s : St} {w : World} (h : Rdr B g n cap T s w) {o : Obj} : Rdr B g n cap T s (w.alloc o).drew := (h.keep ((Below.refl _ _).alloc (Nat.le_refl _) o)).keep (Below.refl _ _).drew
theorem upd_out {B : Nat} {w w' : World} (h : Upd B w w') (hB : B ≤ w'.heap.size) {o : Obj} : Upd B w (w'.alloc o).drew :=
  h.trans ((Upd.alloc hB o).trans (Upd.drew _ _ (by simp; omega)))

set_option maxRecDepth 100000 in
set_option maxHeartbeats 4000000 in
theorem rtake_c {B g n cap : Nat} {T : List Tok} {s : St} {w : World} (hT : TOk T) (h : Rdr B g n cap T s w) (kind : Int) (text : ByteArray) :
    Calls Try.prog 21 #[.pointer (some ⟨B, 0, none⟩), .int .i64 kind, .string text] w fun e w' => e = .returned (.string ⟨(takeT T s kind text.toList).2.1.toArray⟩) ∧ Rdr B g n cap T (needS T s kind text.toList) w' ∧ Upd B w w' := by
  have hBw : B < w.heap.size := h.blk.1
  have hTn := hT.num
  have hln := h.len
  obtain ⟨k0, k1, k2⟩ := h.blk.three
  obtain ⟨c0, c1, c2⟩ := h.row s.i h.i
  have hi := h.i
  have hc1 := h.cap1
  have hc2 := h.cap2
  have hline := hT.line s.i (by rw [h.len]; exact hi)
  have hlast := hT.last s.i (by rw [h.len]; exact hi)
  obtain ⟨i, f⟩ := s
  simp only at k0 k1 k2 c0 c1 c2 hi hline hlast
  obtain ⟨x, hx⟩ : ∃ x, (tk T i).1 = x := ⟨_, rfl⟩
  obtain ⟨S, hS⟩ : ∃ S : ByteArray, (⟨(tk T i).2.1.toArray⟩ : ByteArray) = S := ⟨_, rfl⟩
  obtain ⟨l, hl⟩ : ∃ l, (tk T i).2.2 = l := ⟨_, rfl⟩
  have hI : isP T ⟨i, f⟩ kind text.toList = (f == 0 && (x == kind) && (text.toList.isEmpty || (S.toList == text.toList))) := by
    have e : S.toList = (tk T i).2.1 := by rw [← hS, Lib.toList_data]
    rw [e, ← hx]
    rfl
  have HY : Hid (isP T ⟨i, f⟩ kind text.toList = true → takeT T ⟨i, f⟩ kind text.toList = tk T i ∧ needS T ⟨i, f⟩ kind text.toList = nextP ⟨i, f⟩ kind) := Lib.hid (fun hb => ⟨takeT_yes hb, needS_yes hb⟩)
  have HNo : Hid (isP T ⟨i, f⟩ kind text.toList = false → takeT T ⟨i, f⟩ kind text.toList = tok0 ∧ needS T ⟨i, f⟩ kind text.toList = failP T ⟨i, f⟩) := Lib.hid (fun hb => ⟨takeT_no hb, needS_no hb⟩)
  have HS := Lib.hid hS
  have HL := Lib.hid hl
  rw [hI] at HY HNo
  rw [hx] at c0 hlast
  rw [hS] at c1
  rw [hl] at c2 hline
  have iz : (i : Int) < (n : Int) := by omega
  have iz0 : (0 : Int) ≤ (i : Int) := by omega
  have hA := (Below.refl w.heap.size w).alloc (Nat.le_refl _) (.cells #[.int .i64 x, .string S, .int .i64 l] 47)
  have hP1 := Lib.hid (h.keep hA)
  have hP2 := Lib.hid ((h.keep hA).keep (Below.refl _ _).drew)
  have N2 := Lib.hid ((Bk.new w #[.int .i64 x, .string S, .int .i64 l] 47).keep (Below.refl _ _).drew)
  have hU := (Upd.of (B := B) hA (by omega)).trans (Upd.of (Below.refl _ _).drew (by have := hA.size; omega))
  obtain ⟨d0, d1, d2⟩ := hP2.out.blk.three
  obtain ⟨e0, e1, e2⟩ := hP1.out.blk.three
  obtain ⟨g0, g1, g2⟩ := hP2.out.blk.free3
  obtain ⟨n0, n1, n2⟩ := N2.out.three
  have hDr := (Below.refl w.heap.size w).drew
  obtain ⟨m0, m1, m2⟩ := (h.blk.keep hDr).three
  obtain ⟨q0, q1, q2⟩ := (h.keep hDr).row i hi
  have hZ := (Below.refl w.heap.size w).alloc (Nat.le_refl _) (.cells #[.int .i64 0, .string ⟨#[]⟩, .int .i64 0] 47)
  obtain ⟨u0, u1, u2⟩ := (h.keep hZ).row i hi
  obtain ⟨v0, v1, v2⟩ := ((h.keep hZ).keep (Below.refl _ _).drew).row i hi
  obtain ⟨o0, o1, o2⟩ := (h.blk.keep hZ).three
  obtain ⟨p0, p1, p2⟩ := ((h.blk.keep hZ).keep (Below.refl _ _).drew).three
  simp only [hx, hS, hl] at d0 d1 d2 e0 e1 e2 m0 m1 m2 q0 q1 q2 u0 u1 u2 v0 v1 v2 o0 o1 o2 p0 p1 p2
  rw [h.len] at hlast
  have HH := Lib.hid h
  clear hx hS hl hI h hT hTn hln
  by_cases hf : f = 0
  · subst hf
    have hl1 := hline.1
    have hl4 : ((l : Int) != 0) = true := by rw [bne_iff_ne]; omega
    by_cases hk : x = kind
    · subst hk
      by_cases ht : text.toList = []
      · have ht2 : text.toList.isEmpty = true := by rw [ht]; rfl
        obtain ⟨t1, t2⟩ := HY.out (by simp [ht])
        rw [t1, t2, HS.out]
        clear t1 t2
        by_cases h5 : x = 5
        · subst h5
          have t3 : nextP ⟨i, 0⟩ 5 = ⟨i, 0⟩ := by unfold nextP; rw [if_pos rfl]
          rw [t3]
          clear t3
          go_enter Try.func21, Try.ntmps21
          go_wp2_with fail
          go_region
          all_goals
            go_wp2_with fail
            go_ret
            exact ⟨rfl, hP2.out, hU⟩
        · have t3 : nextP ⟨i, 0⟩ x = ⟨i + 1, 0⟩ := by unfold nextP; rw [if_neg h5]
          rw [t3]
          have h5b : (x != 5) = true := by rw [bne_iff_ne]; exact h5
          have hi2 := hlast h5
          clear t3
          go_enter Try.func21, Try.ntmps21
          go_wp2_with fail
          go_region
          all_goals
            go_wp2_with fail
            go_ret
            exact ⟨rfl, rdr_out (HH.out.next (by omega) (z := (i : Int) + 1) (by omega)), upd_out ((Upd.refl B w).set 1 _) (by simp; omega)⟩
      · have ht2 : text.toList.isEmpty = false := by rw [Bool.eq_false_iff]; intro h; exact ht (List.isEmpty_iff.1 h)
        cases hq : (S.toList == text.toList)
        · have hq2 : ¬ S.toList = text.toList := by simpa using hq
          obtain ⟨t1, t2⟩ := HNo.out (by rw [hq, ht2]; simp)
          have t3 : failP T ⟨i, 0⟩ = ⟨i, l⟩ := by unfold failP; rw [if_pos rfl]; exact congrArg (St.mk i) HL.out
          rw [t1, t2, t3]
          clear t1 t2 t3
          go_enter Try.func21, Try.ntmps21
          go_wp2_with fail
          go_region
          all_goals
            go_wp2_with fail
            go_ret
            exact ⟨rfl, rdr_out (HH.out.failed l), upd_out ((Upd.refl B w).set 2 _) (by simp; omega)⟩
        · have hq2 : S.toList = text.toList := by simpa using hq
          obtain ⟨t1, t2⟩ := HY.out (by rw [hq]; simp)
          rw [t1, t2, HS.out]
          clear t1 t2
          by_cases h5 : x = 5
          · subst h5
            have t3 : nextP ⟨i, 0⟩ 5 = ⟨i, 0⟩ := by unfold nextP; rw [if_pos rfl]
            rw [t3]
            clear t3
            go_enter Try.func21, Try.ntmps21
            go_wp2_with fail
            go_region
            all_goals
              go_wp2_with fail
              go_ret
              exact ⟨rfl, hP2.out, hU⟩
          · have t3 : nextP ⟨i, 0⟩ x = ⟨i + 1, 0⟩ := by unfold nextP; rw [if_neg h5]
            rw [t3]
            have h5b : (x != 5) = true := by rw [bne_iff_ne]; exact h5
            have hi2 := hlast h5
            clear t3
            go_enter Try.func21, Try.ntmps21
            go_wp2_with fail
            go_region
            all_goals
              go_wp2_with fail
              go_ret
              exact ⟨rfl, rdr_out (HH.out.next (by omega) (z := (i : Int) + 1) (by omega)), upd_out ((Upd.refl B w).set 1 _) (by simp; omega)⟩
    · have hk2 : (x == kind) = false := by rw [beq_eq_false_iff_ne]; exact hk
      have hk3 : (x != kind) = true := by rw [bne_iff_ne]; exact hk
      obtain ⟨t1, t2⟩ := HNo.out (by rw [hk2]; simp)
      have t3 : failP T ⟨i, 0⟩ = ⟨i, l⟩ := by unfold failP; rw [if_pos rfl]; exact congrArg (St.mk i) HL.out
      rw [t1, t2, t3]
      clear t1 t2 t3
      go_enter Try.func21, Try.ntmps21
      go_wp2_with fail
      go_region
      all_goals
        go_wp2_with fail
        go_ret
        exact ⟨rfl, rdr_out (HH.out.failed l), upd_out ((Upd.refl B w).set 2 _) (by simp; omega)⟩
  · have hf2 : (f == 0) = false := by rw [beq_eq_false_iff_ne]; exact hf
    have hf3 : ((f : Int) == 0) = false := by rw [beq_eq_false_iff_ne]; omega
    have hf4 : ((f : Int) != 0) = true := by rw [bne_iff_ne]; omega
    obtain ⟨t1, t2⟩ := HNo.out (by rw [hf2]; rfl)
    have t3 : failP T ⟨i, f⟩ = ⟨i, f⟩ := by unfold failP; rw [if_neg hf]
    rw [t1, t2, t3]
    clear t1 t2 t3
    go_enter Try.func21, Try.ntmps21
    go_wp2_with fail
    go_region
    all_goals
      go_wp2_with fail
      go_ret
      exact ⟨rfl, hP2.out, hU⟩

end Go.Proofs.Ythdcgplocdehjaa
