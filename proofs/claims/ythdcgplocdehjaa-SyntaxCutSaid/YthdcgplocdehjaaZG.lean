import Derived.Test.YthdcgplocdehjaaSk
/- The reference's reader: its state; at. -/
namespace Go.Proofs.Ythdcgplocdehjaa
open Go.RowKit Go.Proofs.Kit

/-- A reader lies in block B: its tokens are the row g. -/
structure Rdr (B g n cap : Nat) (T : List Tok) (s : St) (w : World) : Prop where
  blk : Bk B #[.slice (some ⟨g, 0, none⟩) n cap, .int .i64 s.i, .int .i64 s.f] w
  row : ∀ k, k < n → w.cell? ⟨g, k * 3, none⟩ = some (.int .i64 (tk T k).1) ∧ w.cell? ⟨g, k * 3 + 1, none⟩ = some (.string ⟨(tk T k).2.1.toArray⟩) ∧ w.cell? ⟨g, k * 3 + 2, none⟩ = some (.int .i64 (tk T k).2.2)
  gB : g ≠ B
  glt : g < w.heap.size
  i : s.i < n
  len : T.length = n
  cap1 : n ≤ cap
  cap2 : cap ≤ 9223372036854775807
theorem Rdr.same {B g n cap : Nat} {T : List Tok} {s : St} {w w' : World} (h : Rdr B g n cap T s w) (h1 : w'.heap[B]? = w.heap[B]?) (h2 : w'.heap[g]? = w.heap[g]?) (hs : w.heap.size ≤ w'.heap.size) : Rdr B g n cap T s w' :=
  ⟨h.blk.same h1 hs, fun k hk => ⟨(World.cell?_of_block (a := ⟨g, _, none⟩) h2).trans (h.row k hk).1, (World.cell?_of_block (a := ⟨g, _, none⟩) h2).trans (h.row k hk).2.1, (World.cell?_of_block (a := ⟨g, _, none⟩) h2).trans (h.row k hk).2.2⟩, h.gB, Nat.lt_of_lt_of_le h.glt hs, h.i, h.len, h.cap1, h.cap2⟩
theorem Rdr.keep {B g n cap : Nat} {T : List Tok} {s : St} {w w' : World} (h : Rdr B g n cap T s w) (hb : Below w.heap.size w w') : Rdr B g n cap T s w' := h.same (hb.block B h.blk.1) (hb.block g h.glt) hb.size

set_option maxRecDepth 100000 in
set_option maxHeartbeats 4000000 in
theorem at_c {B g n cap : Nat} {T : List Tok} {s : St} {w : World} (hT : TOk T) (h : Rdr B g n cap T s w) (kind : Int) (text : ByteArray) :
    Calls Try.prog 22 #[.pointer (some ⟨B, 0, none⟩), .int .i64 kind, .string text] w fun e w' => e = .returned (.bool (isP T s kind text.toList)) ∧ Below w.heap.size w w' := by
  have hTn := hT.num
  have hln := h.len
  obtain ⟨k0, k1, k2⟩ := h.blk.three
  obtain ⟨c0, c1, c2⟩ := h.row s.i h.i
  have hi := h.i
  have hc1 := h.cap1
  have hc2 := h.cap2
  obtain ⟨i, f⟩ := s
  simp only at k0 k1 k2 c0 c1 c2 hi
  obtain ⟨x, hx⟩ : ∃ x, (tk T i).1 = x := ⟨_, rfl⟩
  obtain ⟨S, hS⟩ : ∃ S : ByteArray, (⟨(tk T i).2.1.toArray⟩ : ByteArray) = S := ⟨_, rfl⟩
  have HI : Hid (isP T ⟨i, f⟩ kind text.toList = (f == 0 && (x == kind) && (text.toList.isEmpty || (S.toList == text.toList)))) := Lib.hid (by
    have e : S.toList = (tk T i).2.1 := by rw [← hS, Lib.toList_data]
    rw [e, ← hx]
    rfl)
  rw [HI.out]
  rw [hx] at c0
  rw [hS] at c1
  have iz : (i : Int) < (n : Int) := by omega
  have iz0 : (0 : Int) ≤ (i : Int) := by omega
  clear hx hS HI h hT hTn hln
  by_cases hf : f = 0
  · subst hf
    by_cases hk : x = kind
    · subst hk
      by_cases ht : text.toList = []
      · have ht2 : text.toList.isEmpty = true := by rw [ht]; rfl
        go_enter Try.func22, Try.ntmps22
        go_wp2_with fail
        go_quiet (fail)
        go_wp2_with fail
        go_ret
        exact ⟨by simp [ht], below_drewN (Below.refl _ _) _⟩
      · have ht2 : text.toList.isEmpty = false := by rw [Bool.eq_false_iff]; intro h; exact ht (List.isEmpty_iff.1 h)
        cases hq : (S.toList == text.toList)
        all_goals
          go_enter Try.func22, Try.ntmps22
          go_wp2_with fail
          go_quiet (fail)
          go_wp2_with fail
          go_ret
          exact ⟨by simp [ht]; try simpa using hq, below_drewN (Below.refl _ _) _⟩
    · have hk2 : (x == kind) = false := by rw [beq_eq_false_iff_ne]; exact hk
      go_enter Try.func22, Try.ntmps22
      go_wp2_with fail
      go_quiet (fail)
      go_wp2_with fail
      go_ret
      exact ⟨by simp [hk], below_drewN (Below.refl _ _) _⟩
  · have hf2 : (f == 0) = false := by rw [beq_eq_false_iff_ne]; exact hf
    have hf3 : ((f : Int) == 0) = false := by rw [beq_eq_false_iff_ne]; omega
    go_enter Try.func22, Try.ntmps22
    go_wp2_with fail
    go_quiet (fail)
    go_wp2_with fail
    go_ret
    exact ⟨by simp [hf], below_drewN (Below.refl _ _) _⟩

end Go.Proofs.Ythdcgplocdehjaa

/- The reference's reader: take. -/
namespace Go.Proofs.Ythdcgplocdehjaa
open Go.RowKit Go.Proofs.Kit

theorem Rdr.failed {B g n cap : Nat} {T : List Tok} {i f : Nat} {w : World} (h : Rdr B g n cap T ⟨i, f⟩ w) (l : Nat) : Rdr B g n cap T ⟨i, l⟩ (w.setCell ⟨B, 2, none⟩ (.int .i64 l)) := by
  have hh : (w.setCell ⟨B, 2, none⟩ (.int .i64 l)).heap[g]? = w.heap[g]? := Below.heap_setCell _ ⟨B, 2, none⟩ _ g h.gB
  exact ⟨h.blk.put (o := 2) (by simp) (.int .i64 l), fun k hk => ⟨(World.cell?_of_block (a := ⟨g, _, none⟩) hh).trans (h.row k hk).1, (World.cell?_of_block (a := ⟨g, _, none⟩) hh).trans (h.row k hk).2.1, (World.cell?_of_block (a := ⟨g, _, none⟩) hh).trans (h.row k hk).2.2⟩, h.gB, by simpa using h.glt, h.i, h.len, h.cap1, h.cap2⟩
theorem Rdr.next {B g n cap : Nat} {T : List Tok} {i f : Nat} {w : World} (h : Rdr B g n cap T ⟨i, f⟩ w) (hi : i + 1 < n) {z : Int} (hz : z = ((i + 1 : Nat) : Int)) : Rdr B g n cap T ⟨i + 1, f⟩ (w.setCell ⟨B, 1, none⟩ (.int .i64 z)) := by
  subst hz
  have hh : (w.setCell ⟨B, 1, none⟩ (.int .i64 ((i + 1 : Nat) : Int))).heap[g]? = w.heap[g]? := Below.heap_setCell _ ⟨B, 1, none⟩ _ g h.gB
  exact ⟨h.blk.put (o := 1) (by simp) (.int .i64 ((i + 1 : Nat) : Int)), fun k hk => ⟨(World.cell?_of_block (a := ⟨g, _, none⟩) hh).trans (h.row k hk).1, (World.cell?_of_block (a := ⟨g, _, none⟩) hh).trans (h.row k hk).2.1, (World.cell?_of_block (a := ⟨g, _, none⟩) hh).trans (h.row k hk).2.2⟩, h.gB, by simpa using h.glt, hi, h.len, h.cap1, h.cap2⟩

theorem rdr_out {B g n cap : Nat} {T : List Tok} {s : St} {w : World} (h : Rdr B g n cap T s w) {o : Obj} : Rdr B g n cap T s (w.alloc o).drew := (h.keep ((Below.refl _ _).alloc (Nat.le_refl _) o)).keep (Below.refl _ _).drew
theorem upd_out {B : Nat} {w w' : World} (h : Upd B w w') (hB : B ≤ w'.heap.size) {o : Obj} : Upd B w (w'.alloc o).drew :=
  h.trans ((Upd.alloc hB o).trans (Upd.drew _ _ (by simp; omega)))

set_option maxRecDepth 100000 in
set_option maxHeartbeats 4000000 in
theorem rtake_c {B g n cap : Nat} {T : List Tok} {s : St} {w : World} (hT : TOk T) (h : Rdr B g n cap T s w) (kind : Int) (text : ByteArray) :
    Calls Try.prog 21 #[.pointer (some ⟨B, 0, none⟩), .int .i64 kind, .string text] w fun e w' => e = .returned (.string ⟨(takeT T s kind text.toList).2.1.toArray⟩) ∧ Rdr B g n cap T (needS T s kind text.toList) w' ∧ Upd B w w' := by
  have hBw : B < w.heap.size := h.blk.1
  have hTn := hT.num
  have hln := h.len
  obtain ⟨k0, k1, k2⟩ := h.blk.three
  obtain ⟨c0, c1, c2⟩ := h.row s.i h.i
  have hi := h.i
  have hc1 := h.cap1
  have hc2 := h.cap2
  have hline := hT.line s.i (by rw [h.len]; exact hi)
  have hlast := hT.last s.i (by rw [h.len]; exact hi)
  obtain ⟨i, f⟩ := s
  simp only at k0 k1 k2 c0 c1 c2 hi hline hlast
  obtain ⟨x, hx⟩ : ∃ x, (tk T i).1 = x := ⟨_, rfl⟩
  obtain ⟨S, hS⟩ : ∃ S : ByteArray, (⟨(tk T i).2.1.toArray⟩ : ByteArray) = S := ⟨_, rfl⟩
  obtain ⟨l, hl⟩ : ∃ l, (tk T i).2.2 = l := ⟨_, rfl⟩
  have hI : isP T ⟨i, f⟩ kind text.toList = (f == 0 && (x == kind) && (text.toList.isEmpty || (S.toList == text.toList))) := by
    have e : S.toList = (tk T i).2.1 := by rw [← hS, Lib.toList_data]
    rw [e, ← hx]
    rfl
  have HY : Hid (isP T ⟨i, f⟩ kind text.toList = true → takeT T ⟨i, f⟩ kind text.toList = tk T i ∧ needS T ⟨i, f⟩ kind text.toList = nextP ⟨i, f⟩ kind) := Lib.hid (fun hb => ⟨takeT_yes hb, needS_yes hb⟩)
  have HNo : Hid (isP T ⟨i, f⟩ kind text.toList = false → takeT T ⟨i, f⟩ kind text.toList = tok0 ∧ needS T ⟨i, f⟩ kind text.toList = failP T ⟨i, f⟩) := Lib.hid (fun hb => ⟨takeT_no hb, needS_no hb⟩)
  have HS := Lib.hid hS
  have HL := Lib.hid hl
  rw [hI] at HY HNo
  rw [hx] at c0 hlast
  rw [hS] at c1
  rw [hl] at c2 hline
  have iz : (i : Int) < (n : Int) := by omega
  have iz0 : (0 : Int) ≤ (i : Int) := by omega
  have hA := (Below.refl w.heap.size w).alloc (Nat.le_refl _) (.cells #[.int .i64 x, .string S, .int .i64 l] 47)
  have hP1 := Lib.hid (h.keep hA)
  have hP2 := Lib.hid ((h.keep hA).keep (Below.refl _ _).drew)
  have N2 := Lib.hid ((Bk.new w #[.int .i64 x, .string S, .int .i64 l] 47).keep (Below.refl _ _).drew)
  have hU := (Upd.of (B := B) hA (by omega)).trans (Upd.of (Below.refl _ _).drew (by have := hA.size; omega))
  obtain ⟨d0, d1, d2⟩ := hP2.out.blk.three
  obtain ⟨e0, e1, e2⟩ := hP1.out.blk.three
  obtain ⟨g0, g1, g2⟩ := hP2.out.blk.free3
  obtain ⟨n0, n1, n2⟩ := N2.out.three
  have hDr := (Below.refl w.heap.size w).drew
  obtain ⟨m0, m1, m2⟩ := (h.blk.keep hDr).three
  obtain ⟨q0, q1, q2⟩ := (h.keep hDr).row i hi
  have hZ := (Below.refl w.heap.size w).alloc (Nat.le_refl _) (.cells #[.int .i64 0, .string ⟨#[]⟩, .int .i64 0] 47)
  obtain ⟨u0, u1, u2⟩ := (h.keep hZ).row i hi
  obtain ⟨v0, v1, v2⟩ := ((h.keep hZ).keep (Below.refl _ _).drew).row i hi
  obtain ⟨o0, o1, o2⟩ := (h.blk.keep hZ).three
  obtain ⟨p0, p1, p2⟩ := ((h.blk.keep hZ).keep (Below.refl _ _).drew).three
  simp only [hx, hS, hl] at d0 d1 d2 e0 e1 e2 m0 m1 m2 q0 q1 q2 u0 u1 u2 v0 v1 v2 o0 o1 o2 p0 p1 p2
  rw [h.len] at hlast
  have HH := Lib.hid h
  clear hx hS hl hI h hT hTn hln
  by_cases hf : f = 0
  · subst hf
    have hl1 := hline.1
    have hl4 : ((l : Int) != 0) = true := by rw [bne_iff_ne]; omega
    by_cases hk : x = kind
    · subst hk
      by_cases ht : text.toList = []
      · have ht2 : text.toList.isEmpty = true := by rw [ht]; rfl
        obtain ⟨t1, t2⟩ := HY.out (by simp [ht])
        rw [t1, t2, HS.out]
        clear t1 t2
        by_cases h5 : x = 5
        · subst h5
          have t3 : nextP ⟨i, 0⟩ 5 = ⟨i, 0⟩ := by unfold nextP; rw [if_pos rfl]
          rw [t3]
          clear t3
          go_enter Try.func21, Try.ntmps21
          go_wp2_with fail
          go_region
          all_goals
            go_wp2_with fail
            go_ret
            exact ⟨rfl, hP2.out, hU⟩
        · have t3 : nextP ⟨i, 0⟩ x = ⟨i + 1, 0⟩ := by unfold nextP; rw [if_neg h5]
          rw [t3]
          have h5b : (x != 5) = true := by rw [bne_iff_ne]; exact h5
          have hi2 := hlast h5
          clear t3
          go_enter Try.func21, Try.ntmps21
          go_wp2_with fail
          go_region
          all_goals
            go_wp2_with fail
            go_ret
            exact ⟨rfl, rdr_out (HH.out.next (by omega) (z := (i : Int) + 1) (by omega)), upd_out ((Upd.refl B w).set 1 _) (by simp; omega)⟩
      · have ht2 : text.toList.isEmpty = false := by rw [Bool.eq_false_iff]; intro h; exact ht (List.isEmpty_iff.1 h)
        cases hq : (S.toList == text.toList)
        · have hq2 : ¬ S.toList = text.toList := by simpa using hq
          obtain ⟨t1, t2⟩ := HNo.out (by rw [hq, ht2]; simp)
          have t3 : failP T ⟨i, 0⟩ = ⟨i, l⟩ := by unfold failP; rw [if_pos rfl]; exact congrArg (St.mk i) HL.out
          rw [t1, t2, t3]
          clear t1 t2 t3
          go_enter Try.func21, Try.ntmps21
          go_wp2_with fail
          go_region
          all_goals
            go_wp2_with fail
            go_ret
            exact ⟨rfl, rdr_out (HH.out.failed l), upd_out ((Upd.refl B w).set 2 _) (by simp; omega)⟩
        · have hq2 : S.toList = text.toList := by simpa using hq
          obtain ⟨t1, t2⟩ := HY.out (by rw [hq]; simp)
          rw [t1, t2, HS.out]
          clear t1 t2
          by_cases h5 : x = 5
          · subst h5
            have t3 : nextP ⟨i, 0⟩ 5 = ⟨i, 0⟩ := by unfold nextP; rw [if_pos rfl]
            rw [t3]
            clear t3
            go_enter Try.func21, Try.ntmps21
            go_wp2_with fail
            go_region
            all_goals
              go_wp2_with fail
              go_ret
              exact ⟨rfl, hP2.out, hU⟩
          · have t3 : nextP ⟨i, 0⟩ x = ⟨i + 1, 0⟩ := by unfold nextP; rw [if_neg h5]
            rw [t3]
            have h5b : (x != 5) = true := by rw [bne_iff_ne]; exact h5
            have hi2 := hlast h5
            clear t3
            go_enter Try.func21, Try.ntmps21
            go_wp2_with fail
            go_region
            all_goals
              go_wp2_with fail
              go_ret
              exact ⟨rfl, rdr_out (HH.out.next (by omega) (z := (i : Int) + 1) (by omega)), upd_out ((Upd.refl B w).set 1 _) (by simp; omega)⟩
    · have hk2 : (x == kind) = false := by rw [beq_eq_false_iff_ne]; exact hk
      have hk3 : (x != kind) = true := by rw [bne_iff_ne]; exact hk
      obtain ⟨t1, t2⟩ := HNo.out (by rw [hk2]; simp)
      have t3 : failP T ⟨i, 0⟩ = ⟨i, l⟩ := by unfold failP; rw [if_pos rfl]; exact congrArg (St.mk i) HL.out
      rw [t1, t2, t3]
      clear t1 t2 t3
      go_enter Try.func21, Try.ntmps21
      go_wp2_with fail
      go_region
      all_goals
        go_wp2_with fail
        go_ret
        exact ⟨rfl, rdr_out (HH.out.failed l), upd_out ((Upd.refl B w).set 2 _) (by simp; omega)⟩
  · have hf2 : (f == 0) = false := by rw [beq_eq_false_iff_ne]; exact hf
    have hf3 : ((f : Int) == 0) = false := by rw [beq_eq_false_iff_ne]; omega
    have hf4 : ((f : Int) != 0) = true := by rw [bne_iff_ne]; omega
    obtain ⟨t1, t2⟩ := HNo.out (by rw [hf2]; rfl)
    have t3 : failP T ⟨i, f⟩ = ⟨i, f⟩ := by unfold failP; rw [if_neg hf]
    rw [t1, t2, t3]
    clear t1 t2 t3
    go_enter Try.func21, Try.ntmps21
    go_wp2_with fail
    go_region
    all_goals
      go_wp2_with fail
      go_ret
      exact ⟨rfl, hP2.out, hU⟩

end Go.Proofs.Ythdcgplocdehjaa

/- The reference's reader: value. -/
namespace Go.Proofs.Ythdcgplocdehjaa
open Go.RowKit Go.Proofs.Kit

theorem cat3' (a b : List UInt8) : ((⟨a.toArray⟩ : ByteArray) ++ (⟨#[47]⟩ : ByteArray)) ++ ⟨b.toArray⟩ = ⟨(a ++ 47 :: b).toArray⟩ := by
  rw [← Lib.mk_data (_ ++ _), data_app', data_app']
  simp
theorem need_take {T : List Tok} {s : St} {kind : Int} {text : List UInt8} (h : isP T s kind text = true) : needS T s kind text = takeS T s kind text := by rw [needS_yes h, takeS_yes h]
theorem at_v {B g n cap : Nat} {T : List Tok} {s : St} {w : World} (hT : TOk T) (h : Rdr B g n cap T s w) (kind : Int) (text : ByteArray) {b : Bool} (hb : isP T s kind text.data.toList = b) :
    Calls Try.prog 22 #[.pointer (some ⟨B, 0, none⟩), .int .i64 kind, .string text] w fun e w' => e = .returned (.bool b) ∧ Rdr B g n cap T s w' ∧ Upd B w w' :=
  (at_c hT h kind text).mono (by
    rintro e w' ⟨rfl, hbe⟩
    rw [Lib.toList_data, hb]
    exact ⟨rfl, h.keep hbe, Upd.of hbe (Nat.le_of_lt h.blk.1)⟩)
theorem rtake_v {B g n cap : Nat} {T : List Tok} {s s' : St} {w : World} (hT : TOk T) (h : Rdr B g n cap T s w) (kind : Int) (text : ByteArray) {S : ByteArray} (hS : (⟨(takeT T s kind text.data.toList).2.1.toArray⟩ : ByteArray) = S) (hs : needS T s kind text.data.toList = s') :
    Calls Try.prog 21 #[.pointer (some ⟨B, 0, none⟩), .int .i64 kind, .string text] w fun e w' => e = .returned (.string S) ∧ Rdr B g n cap T s' w' ∧ Upd B w w' := by
  have := rtake_c hT h kind text
  rw [Lib.toList_data, hS, hs] at this
  exact this

set_option maxRecDepth 100000 in
set_option maxHeartbeats 4000000 in
theorem rvalue_word {B g n cap : Nat} {T : List Tok} {s : St} {w : World} (hT : TOk T) (h : Rdr B g n cap T s w) (hb : isP T s 1 [] = true) :
    Calls Try.prog 58 #[.pointer (some ⟨B, 0, none⟩)] w fun e w' => e = .returned (.string ⟨(valT T s).toArray⟩) ∧ Rdr B g n cap T (valS T s) w' ∧ Upd B w w' := by
  obtain ⟨S, hS⟩ : ∃ S : ByteArray, (⟨(takeT T s 1 []).2.1.toArray⟩ : ByteArray) = S := ⟨_, rfl⟩
  have e1 : valT T s = (takeT T s 1 []).2.1 := by unfold valT; rw [if_pos hb, takeT_yes hb]
  have e2 : valS T s = needS T s 1 [] := by unfold valS; rw [if_pos hb, need_take hb]
  have AT := Lib.hid (at_v hT h 1 ⟨#[]⟩ hb)
  have TK := Lib.hid (fun w' (g' : Rdr B g n cap T s w') => rtake_v hT g' 1 ⟨#[]⟩ hS rfl)
  rw [show (⟨#[]⟩ : ByteArray).data.toList = [] from rfl] at TK
  rw [e1, e2, hS]
  obtain ⟨s1, hs1⟩ : ∃ x, needS T s 1 [] = x := ⟨_, rfl⟩
  rw [hs1] at TK ⊢
  clear hb hS e1 e2 hs1
  go_enter Try.func58, Try.ntmps58
  go_wp2_with (first
    | (go_at_call 22; ((with_reducible refine (AT.out).mono ?_); rintro e w1 ⟨rfl, hP1, hu1⟩))
    | (go_at_call 21; ((with_reducible refine (TK.out _ hP1).mono ?_); rintro e w2 ⟨rfl, hP2, hu2⟩)))
  go_ret
  exact ⟨rfl, hP2, hu1.trans hu2⟩

set_option maxRecDepth 100000 in
set_option maxHeartbeats 4000000 in
theorem rvalue_num {B g n cap : Nat} {T : List Tok} {s : St} {w : World} (hT : TOk T) (h : Rdr B g n cap T s w) (hb : isP T s 1 [] = false) (hb3 : isP T s 3 [] = false) :
    Calls Try.prog 58 #[.pointer (some ⟨B, 0, none⟩)] w fun e w' => e = .returned (.string ⟨(valT T s).toArray⟩) ∧ Rdr B g n cap T (valS T s) w' ∧ Upd B w w' := by
  have hil : s.i < T.length := by rw [h.len]; exact h.i
  obtain ⟨s2, hs2⟩ : ∃ x, needS T s 2 [] = x := ⟨_, rfl⟩
  obtain ⟨S2, hS2⟩ : ∃ S : ByteArray, (⟨(takeT T s 2 []).2.1.toArray⟩ : ByteArray) = S := ⟨_, rfl⟩
  have hz2 : S2.size ≤ 20000 := by rw [← hS2, size_mk]; exact takeT_len hT hil
  obtain ⟨b4, hb4⟩ : ∃ b, isP T s2 4 [47] = b := ⟨_, rfl⟩
  obtain ⟨s4, hs4⟩ : ∃ x, takeS T s2 4 [47] = x := ⟨_, rfl⟩
  have HVT : Hid (valT T s = if b4 then (takeT T s 2 []).2.1 ++ 47 :: (takeT T s4 2 []).2.1 else (takeT T s 2 []).2.1) := Lib.hid (by
    unfold valT
    rw [if_neg (by rw [hb]; simp), if_neg (by rw [hb3]; simp), hs2, hs4, hb4])
  have HVS : Hid (valS T s = if b4 then needS T s4 2 [] else s2) := Lib.hid (by
    unfold valS
    rw [if_neg (by rw [hb]; simp), if_neg (by rw [hb3]; simp), hs2, hs4, hb4])
  have AT1 := Lib.hid (at_v hT h 1 ⟨#[]⟩ hb)
  have AT3 := Lib.hid (fun w' (g' : Rdr B g n cap T s w') => at_v hT g' 3 ⟨#[]⟩ hb3)
  have TK := Lib.hid (fun w' (g' : Rdr B g n cap T s w') => rtake_v hT g' 2 ⟨#[]⟩ hS2 hs2)
  have AT4 := Lib.hid (fun w' (g' : Rdr B g n cap T s2 w') => at_v hT g' 4 ⟨#[47]⟩ hb4)
  have HS2 := Lib.hid hS2
  cases b4
  · rw [HVT.out, HVS.out, if_neg (by simp), if_neg (by simp), HS2.out]
    clear hb hb3 hs2 hS2 hb4 hs4
    go_enter Try.func58, Try.ntmps58
    go_wp2_with (first
      | (go_at_call 22; ((with_reducible refine (AT1.out).mono ?_); rintro e w1 ⟨rfl, hP1, hu1⟩))
      | (go_at_call 22; ((with_reducible refine (AT3.out _ hP1).mono ?_); rintro e w2 ⟨rfl, hP2, hu2⟩))
      | (go_at_call 21; ((with_reducible refine (TK.out _ hP2).mono ?_); rintro e w3 ⟨rfl, hP3, hu3⟩))
      | (go_at_call 22; ((with_reducible refine (AT4.out _ hP3).mono ?_); rintro e w4 ⟨rfl, hP4, hu4⟩)))
    go_ret
    exact ⟨rfl, hP4, ((hu1.trans hu2).trans hu3).trans hu4⟩
  · obtain ⟨S5, hS5⟩ : ∃ S : ByteArray, (⟨(takeT T s4 2 []).2.1.toArray⟩ : ByteArray) = S := ⟨_, rfl⟩
    obtain ⟨s5, hs5⟩ : ∃ x, needS T s4 2 [] = x := ⟨_, rfl⟩
    have TE := Lib.hid (fun w' (g' : Rdr B g n cap T s4 w') => rtake_v hT g' 2 ⟨#[]⟩ hS5 hs5)
    have HZ5 : Hid (∀ w', Rdr B g n cap T s4 w' → S5.size ≤ 20000) := Lib.hid (fun w' g' => by rw [← hS5, size_mk]; exact takeT_len hT (by rw [g'.len]; exact g'.i))
    obtain ⟨i2, f2⟩ := s2
    have hk4 := (isP_kind hb4).2
    have h4 : s4 = ⟨i2 + 1, f2⟩ := by rw [← hs4, takeS_yes hb4]; unfold nextP; rw [if_neg (by decide)]
    have HNX : Hid (∀ w', Rdr B g n cap T ⟨i2, f2⟩ w' → Rdr B g n cap T s4 (w'.setCell ⟨B, 1, none⟩ (.int .i64 ((i2 : Int) + 1)))) := Lib.hid (fun w' g' => by
      rw [h4]
      exact g'.next (by rw [← g'.len]; exact hT.last i2 (by rw [g'.len]; exact g'.i) (by rw [hk4]; decide)) (by omega))
    have HI2 : Hid (∀ w', Rdr B g n cap T ⟨i2, f2⟩ w' → i2 ≤ 20001 ∧ w'.cell? ⟨B, 1, none⟩ = some (.int .i64 i2)) := Lib.hid (fun w' g' => ⟨by have := g'.i; have := g'.len; have := hT.num; simp only at *; omega, g'.blk.three.2.1⟩)
    rw [HVT.out, HVS.out, if_pos rfl, if_pos rfl, hs5]
    have HC : Hid ((⟨((takeT T s 2 []).2.1 ++ 47 :: (takeT T s4 2 []).2.1).toArray⟩ : ByteArray) = (S2 ++ (⟨#[47]⟩ : ByteArray)) ++ S5) := Lib.hid (by rw [← cat3', HS2.out, hS5])
    rw [HC.out]
    clear hb hb3 hs2 hS2 hb4 hs4 hS5 hs5 hk4 h4
    go_enter Try.func58, Try.ntmps58
    go_wp2_with (first
      | (go_at_call 22; ((with_reducible refine (AT1.out).mono ?_); rintro e w1 ⟨rfl, hP1, hu1⟩))
      | (go_at_call 22; ((with_reducible refine (AT3.out _ hP1).mono ?_); rintro e w2 ⟨rfl, hP2, hu2⟩))
      | (go_at_call 21; ((with_reducible refine (TK.out _ hP2).mono ?_); rintro e w3 ⟨rfl, hP3, hu3⟩))
      | (go_at_call 22; ((with_reducible refine (AT4.out _ hP3).mono ?_); rintro e w4 ⟨rfl, hP4, hu4⟩; obtain ⟨hi4, hk1⟩ := HI2.out _ hP4; have hfz := hP4.blk.free3.2.1; have hP5 := Lib.hid (HNX.out _ hP4); have hz5 := HZ5.out _ hP5.out))
      | (go_at_call 21; ((with_reducible refine (TE.out _ hP5.out).mono ?_); rintro e w6 ⟨rfl, hP6, hu6⟩)))
    go_ret
    exact ⟨rfl, hP6, ((((hu1.trans hu2).trans hu3).trans hu4).trans ((Upd.refl B w4).set 1 _)).trans hu6⟩

set_option maxRecDepth 100000 in
set_option maxHeartbeats 4000000 in
theorem rvalue_str {B g n cap : Nat} {T : List Tok} {s : St} {w : World} (hT : TOk T) (h : Rdr B g n cap T s w) (hb : isP T s 1 [] = false) (hb3 : isP T s 3 [] = true) :
    Calls Try.prog 58 #[.pointer (some ⟨B, 0, none⟩)] w fun e w' => e = .returned (.string ⟨(valT T s).toArray⟩) ∧ Rdr B g n cap T (valS T s) w' ∧ Upd B w w' := by
  have e1 : valT T s = (tk T s.i).2.1 := by unfold valT; rw [if_neg (by rw [hb]; simp), if_pos hb3]
  have e2 : valS T s = takeS T s 3 [] := by unfold valS; rw [if_neg (by rw [hb]; simp), if_pos hb3]
  have AT1 := Lib.hid (at_v hT h 1 ⟨#[]⟩ hb)
  have AT3 := Lib.hid (fun w' (g' : Rdr B g n cap T s w') => at_v hT g' 3 ⟨#[]⟩ hb3)
  obtain ⟨i, f⟩ := s
  have hk3 := (isP_kind hb3).2
  have hi := h.i
  have hln := h.len
  have hTn := hT.num
  have h4 : takeS T ⟨i, f⟩ 3 [] = ⟨i + 1, f⟩ := by rw [takeS_yes hb3]; unfold nextP; rw [if_neg (by decide)]
  have hin : i + 1 < n := by rw [← h.len]; exact hT.last i (by rw [h.len]; exact h.i) (by rw [hk3]; decide)
  simp only at e1
  rw [e1, e2, h4]
  obtain ⟨S, hS⟩ : ∃ S : ByteArray, (⟨(tk T i).2.1.toArray⟩ : ByteArray) = S := ⟨_, rfl⟩
  have HNX : Hid (∀ w', Rdr B g n cap T ⟨i, f⟩ w' → Rdr B g n cap T ⟨i + 1, f⟩ (w'.setCell ⟨B, 1, none⟩ (.int .i64 ((i : Int) + 1)))) := Lib.hid (fun w' g' => g'.next hin (by omega))
  have HC : Hid (∀ w' s', Rdr B g n cap T s' w' → w'.cell? ⟨g, i * 3 + 1, none⟩ = some (.string S)) := Lib.hid (fun w' s' g' => by rw [← hS]; exact (g'.row i (by omega)).2.1)
  rw [hS]
  have hc1 := h.cap1
  have hc2 := h.cap2
  have iz : (i : Int) < (n : Int) := by omega
  clear hb hb3 e1 e2 hk3 h4 hS hln hT
  go_enter Try.func58, Try.ntmps58
  go_wp2_with (first
    | (go_at_call 22; ((with_reducible refine (AT1.out).mono ?_); rintro e w1 ⟨rfl, hP1, hu1⟩))
    | (go_at_call 22; ((with_reducible refine (AT3.out _ hP1).mono ?_); rintro e w2 ⟨rfl, hP2, hu2⟩; have hk1 := hP2.blk.three.2.1; have hk0 := hP2.blk.three.1; have hfz := hP2.blk.free3.2.1; have hP5 := Lib.hid (HNX.out _ hP2); obtain ⟨a0, a1, _⟩ := hP5.out.blk.three; have hc5 := HC.out _ _ hP5.out; have hP6 := Lib.hid (hP5.out.keep (Below.refl _ _).drew); obtain ⟨b0, b1, _⟩ := hP6.out.blk.three; have hc6 := HC.out _ _ hP6.out)))
  go_quiet (fail)
  go_wp2_with fail
  go_ret
  refine ⟨rfl, hP5.out.keep (below_drewN (Below.refl _ _) _), ((hu1.trans hu2).trans ((Upd.refl B w2).set 1 _)).trans (Upd.of (below_drewN (Below.refl _ _) _) (Nat.le_of_lt hP5.out.blk.1))⟩

theorem rvalue_c {B g n cap : Nat} {T : List Tok} {s : St} {w : World} (hT : TOk T) (h : Rdr B g n cap T s w) :
    Calls Try.prog 58 #[.pointer (some ⟨B, 0, none⟩)] w fun e w' => e = .returned (.string ⟨(valT T s).toArray⟩) ∧ Rdr B g n cap T (valS T s) w' ∧ Upd B w w' := by
  cases hb : isP T s 1 [] with
  | true => exact rvalue_word hT h hb
  | false =>
    cases hb3 : isP T s 3 [] with
    | true => exact rvalue_str hT h hb hb3
    | false => exact rvalue_num hT h hb hb3

end Go.Proofs.Ythdcgplocdehjaa

/- The reference's reader: what is known while it runs. -/
namespace Go.Proofs.Ythdcgplocdehjaa
open Go.RowKit Go.Proofs.Kit

/-- What is known while a reader runs: Q is what else stands. -/
structure Knr (B g n cap : Nat) (T : List Tok) (s : St) (w : World) (Q : World → Prop) (W : World) : Prop where
  p : Rdr B g n cap T s W
  q : Q W
  u : Upd B w W
  st : ∀ W W', Upd B W W' → Q W → Q W'
theorem Knr.le {B g n cap : Nat} {T : List Tok} {s : St} {w W : World} {Q : World → Prop} (h : Knr B g n cap T s w Q W) : B ≤ W.heap.size := Nat.le_of_lt h.p.blk.1
theorem Knr.drew {B g n cap : Nat} {T : List Tok} {s : St} {w W : World} {Q : World → Prop} (h : Knr B g n cap T s w Q W) : Knr B g n cap T s w Q W.drew :=
  ⟨h.p.keep (Below.refl _ _).drew, h.st _ _ (Upd.drew _ _ h.le) h.q, h.u.trans (Upd.drew _ _ h.le), h.st⟩
theorem Knr.alloc {B g n cap : Nat} {T : List Tok} {s : St} {w W : World} {Q : World → Prop} (h : Knr B g n cap T s w Q W) (o : Obj) : Knr B g n cap T s w Q (W.alloc o) :=
  ⟨h.p.keep ((Below.refl _ _).alloc (Nat.le_refl _) o), h.st _ _ (Upd.alloc h.le o) h.q, h.u.trans (Upd.alloc h.le o), h.st⟩
theorem Knr.step {B g n cap : Nat} {T : List Tok} {s s' : St} {w W W' : World} {Q : World → Prop} (h : Knr B g n cap T s w Q W) (hu : Upd B W W') (hp : Rdr B g n cap T s' W') : Knr B g n cap T s' w Q W' :=
  ⟨hp, h.st _ _ hu h.q, h.u.trans hu, h.st⟩
theorem Knr.with_ {B g n cap : Nat} {T : List Tok} {s : St} {w W : World} {Q R : World → Prop} (h : Knr B g n cap T s w Q W) (hr : R W) (hs : ∀ W W', Upd B W W' → R W → R W') : Knr B g n cap T s w (fun W => Q W ∧ R W) W :=
  ⟨h.p, ⟨h.q, hr⟩, h.u, fun W W' hu k => ⟨h.st W W' hu k.1, hs W W' hu k.2⟩⟩
theorem Knr.weak {B g n cap : Nat} {T : List Tok} {s : St} {w W : World} {Q R : World → Prop} (h : Knr B g n cap T s w Q W) (hr : Q W → R W) (hs : ∀ W W', Upd B W W' → R W → R W') : Knr B g n cap T s w R W := ⟨h.p, hr h.q, h.u, hs⟩
theorem Rdr.off {B g n cap : Nat} {T : List Tok} {s : St} {w : World} (h : Rdr B g n cap T s w) {b o : Nat} {v : Value} (h1 : b ≠ B) (h2 : b ≠ g) : Rdr B g n cap T s (w.setCell ⟨b, o, none⟩ v) :=
  h.same (Below.heap_setCell _ ⟨b, o, none⟩ _ B h1.symm) (Below.heap_setCell _ ⟨b, o, none⟩ _ g h2.symm) (by simp)
/-- How many tokens are left. -/
def remR (n B : Nat) (w : World) : Nat := match w.cell? ⟨B, 1, none⟩ with
  | some (.int _ i) => n - i.toNat
  | _ => 0
theorem remR_rdr {B g n cap : Nat} {T : List Tok} {s : St} {w : World} (h : Rdr B g n cap T s w) : remR n B w = n - s.i := by
  unfold remR
  rw [h.blk.three.2.1]
  simp
/-- 'r.i++' behind a test that held. -/
theorem Rdr.inc {B g n cap : Nat} {T : List Tok} {s : St} {w : World} {kind : Int} {text : List UInt8} (hT : TOk T) (h : Rdr B g n cap T s w) (hb : isP T s kind text = true) (h5 : kind ≠ 5) : Rdr B g n cap T (takeS T s kind text) (w.setCell ⟨B, 1, none⟩ (.int .i64 ((s.i : Int) + 1))) := by
  have hk := (isP_kind hb).2
  obtain ⟨i, f⟩ := s
  have e : takeS T ⟨i, f⟩ kind text = ⟨i + 1, f⟩ := by rw [takeS_yes hb]; unfold nextP; rw [if_neg h5]
  rw [e]
  exact h.next (by rw [← h.len]; exact hT.last i (by rw [h.len]; exact h.i) (by rw [hk]; exact h5)) (by simp)
theorem Knr.inc {B g n cap : Nat} {T : List Tok} {s : St} {w W : World} {Q : World → Prop} {kind : Int} {text : List UInt8} (hT : TOk T) (h : Knr B g n cap T s w Q W) (hb : isP T s kind text = true) (h5 : kind ≠ 5) : Knr B g n cap T (takeS T s kind text) w Q (W.setCell ⟨B, 1, none⟩ (.int .i64 ((s.i : Int) + 1))) :=
  h.step ((Upd.refl B W).set 1 _) (h.p.inc hT hb h5)
/-- Another block is written. -/
theorem Knr.put {B g n cap F o : Nat} {T : List Tok} {s : St} {w W : World} {Q : World → Prop} {cs : Array Value} (h : Knr B g n cap T s w (fun W => Q W ∧ Bk F cs W) W) (ho : o < cs.size) (v : Value) (hF : F ≠ B) (hg : F ≠ g) (hF2 : w.heap.size ≤ F) (hBF : B ≤ F) (hQ : Q (W.setCell ⟨F, o, none⟩ v)) (hQs : ∀ W W', Upd B W W' → Q W → Q W') :
    Knr B g n cap T s w (fun W => Q W ∧ Bk F (cs.set o v ho) W) (W.setCell ⟨F, o, none⟩ v) :=
  ⟨h.p.off hF hg, ⟨hQ, h.q.2.put ho v⟩, h.u.off hF2 hBF, fun _ _ hu k => ⟨hQs _ _ hu k.1, k.2.upd hu hF⟩⟩
theorem bk_off {b F o : Nat} {cs : Array Value} {w : World} (h : Bk b cs w) (hne : b ≠ F) (v : Value) : Bk b cs (w.setCell ⟨F, o, none⟩ v) := h.same (Below.heap_setCell _ ⟨F, o, none⟩ _ b hne) (by simp)

theorem QF.growR {B g n cap R F : Nat} {T : List Tok} {s : St} {w W W' W2 : World} {S : ByteArray} {l : Nat} {u v' : Value} {vals : List Value} {x : Value} (h : Knr B g n cap T s w (QF R F w.heap.size S l u vals) W) (hR : R ≠ B) (hF : F ≠ B) (hB : B < w.heap.size) (hRF : R ≠ F) (hF2 : w.heap.size ≤ F) (hgw : g < w.heap.size)
    (ho : W'.ownsRow w.heap.size 9 1 v' (vals.length + 1) (vals ++ [x])) (hb : Below w.heap.size W W') (hg : W.grownBy W' u.ownBlock) (hv : v'.ownBlock = u.ownBlock ∨ ∃ b, v'.ownBlock = some b ∧ W.heap.size ≤ b) (e : W2 = W'.setCell ⟨F, 1, none⟩ v') :
    Knr B g n cap T s w (QF R F w.heap.size S l v' (vals ++ [x])) W2 := by
  subst e
  obtain ⟨hq1, hq2, hq3, hq4⟩ := h.q
  have hsz := hb.size
  have kB : W'.heap[B]? = W.heap[B]? := hb.block B hB
  have kg : W'.heap[g]? = W.heap[g]? := hb.block g hgw
  have kR : W'.heap[R]? = W.heap[R]? := hg.block R hq1.1 (fun g' => (hq4 R g'.symm).1 rfl)
  have kF : W'.heap[F]? = W.heap[F]? := hg.block F hq2.1 (fun g' => (hq4 F g'.symm).2 rfl)
  have hp : Rdr B g n cap T s W' := h.p.same kB kg hsz
  have hu : Upd B w W' := ⟨fun k hk hne => (hb.block k hk).trans (h.u.heap k hk hne), h.u.below.trans (hb.mono (by omega))⟩
  have hne : ∀ b, v'.ownBlock = some b → b ≠ R ∧ b ≠ F := fun b hbv => by
    rcases hv with hv | ⟨b', hv, hbl⟩
    · exact hq4 b (by rw [← hv]; exact hbv)
    · rw [hv] at hbv
      have e := Option.some.inj hbv
      have h1 := hq1.1
      have h2 := hq2.1
      omega
  have hF' : Bk F #[.string S, u, .int .i64 l] W' := hq2.same kF hsz
  have ho2 := ownsRow_setCell_other ho (a := ⟨F, 1, none⟩) (fun hh => (hne F hh).2 rfl) v'
  refine ⟨hp.off hF (fun hh => by omega), ⟨(hq1.same kR hsz).same (Below.heap_setCell _ ⟨F, 1, none⟩ _ R hRF) (by simp), hF'.put (o := 1) (by simp) v', ?_, hne⟩, hu.off hF2 (by omega), QF.st hR hF hB⟩
  rw [List.length_append, List.length_singleton]
  exact ho2
/-- The first value is laid. -/
theorem QF.first {B g n cap R F : Nat} {T : List Tok} {s : St} {w W : World} {S V : ByteArray} {l : Nat} (h : Knr B g n cap T s w (fun W => Bk R fldZ W ∧ Bk F #[.string S, .slice none 0 0, .int .i64 l] W) W) (hR : R ≠ B) (hF : F ≠ B) (hB : B < w.heap.size) (hRF : R ≠ F) (hF2 : w.heap.size ≤ F) (hgw : g < w.heap.size) (hWl : w.heap.size ≤ W.heap.size) :
    Knr B g n cap T s w (QF R F w.heap.size S l (.slice (some ⟨W.heap.size, 0, none⟩) 1 1) [.string V]) ((W.setCell ⟨F, 1, none⟩ (.slice (some ⟨W.heap.size, 0, none⟩) 1 1)).alloc (.cells #[.string V] 9)) := by
  have hRl := h.q.1.1
  have hFl := h.q.2.1
  have hp := h.p.off (o := 1) (v := .slice (some ⟨W.heap.size, 0, none⟩) 1 1) hF (by omega)
  have hu := h.u.off (o := 1) (v := .slice (some ⟨W.heap.size, 0, none⟩) 1 1) hF2 (by omega)
  have hr := bk_off (o := 1) h.q.1 hRF (.slice (some ⟨W.heap.size, 0, none⟩) 1 1)
  have hf := h.q.2.put (o := 1) (by simp) (.slice (some ⟨W.heap.size, 0, none⟩) 1 1)
  have hz : (W.setCell ⟨F, 1, none⟩ (.slice (some ⟨W.heap.size, 0, none⟩) 1 1)).heap.size = W.heap.size := by simp
  revert hp hu hr hf hz
  generalize W.setCell ⟨F, 1, none⟩ (.slice (some ⟨W.heap.size, 0, none⟩) 1 1) = Y
  intro hp hu hr hf hz
  have ho := one_own Y w.heap.size V (by omega)
  rw [hz] at ho
  have hA := (Below.refl Y.heap.size Y).alloc (Nat.le_refl _) (.cells #[.string V] 9)
  exact ⟨hp.keep hA, ⟨hr.keep hA, hf.keep hA, ho, fun b hb => by
    have e : W.heap.size = b := by simpa [Value.ownBlock] using hb
    omega⟩, hu.trans (Upd.of hA (by omega)), QF.st hR hF hB⟩

end Go.Proofs.Ythdcgplocdehjaa
