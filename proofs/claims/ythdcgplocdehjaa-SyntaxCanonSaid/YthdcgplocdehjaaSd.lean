/- The parser: value. -/
import Derived.Test.YthdcgplocdehjaaSc
import Derived.Test.YthdcgplocdehjaaLxRd
namespace Go.Proofs.Ythdcgplocdehjaa
open Go.RowKit Go.Proofs.Kit

/-- A value, as the parser reads it. -/
def valT (T : List Tok) (s : St) : List UInt8 :=
  if isP T s 1 [] then (tk T s.i).2.1 else if isP T s 3 [] then (tk T s.i).2.1
  else if isP T (needS T s 2 []) 4 [47] then (takeT T s 2 []).2.1 ++ 47 :: (takeT T (takeS T (needS T s 2 []) 4 [47]) 2 []).2.1
  else (takeT T s 2 []).2.1
def valS (T : List Tok) (s : St) : St :=
  if isP T s 1 [] then takeS T s 1 [] else if isP T s 3 [] then takeS T s 3 []
  else if isP T (needS T s 2 []) 4 [47] then needS T (takeS T (needS T s 2 []) 4 [47]) 2 []
  else needS T s 2 []
theorem takeT_len {T : List Tok} {s : St} {kind : Int} {text : List UInt8} (hT : TOk T) (hi : s.i < T.length) : (takeT T s kind text).2.1.length ≤ 20000 := by
  unfold takeT
  split
  · exact hT.size _ hi
  · show 0 ≤ 20000; omega
theorem tokV_eq (t : Tok) {S : ByteArray} {k : Int} {l : Nat} (h1 : t.1 = k) (h2 : (⟨t.2.1.toArray⟩ : ByteArray) = S) (h3 : t.2.2 = l) : tokV t = .agg #[.int .i64 k, .string S, .int .i64 l] := by unfold tokV; rw [h1, h2, h3]
/-- take, its token in parts. -/
theorem take_v {B g n cap : Nat} {T : List Tok} {s : St} {w : World} (hT : TOk T) (h : Prs B g n cap T s w) (kind : Int) (text : ByteArray) {b : Bool} (hb : isP T s kind text.data.toList = b) {S : ByteArray} (hS : (⟨(takeT T s kind text.data.toList).2.1.toArray⟩ : ByteArray) = S) :
    ∃ k : Int, ∃ l : Nat, Calls Try.prog 35 #[.pointer (some ⟨B, 0, none⟩), .int .i64 kind, .string text] w fun e w' => e = .returned (.tuple #[.agg #[.int .i64 k, .string S, .int .i64 l], .bool b]) ∧ Prs B g n cap T (takeS T s kind text.data.toList) w' ∧ Upd B w w' := by
  have := take_c hT h kind text
  rw [Lib.toList_data, hb, tokV_eq _ rfl hS rfl] at this
  exact ⟨_, _, this⟩
theorem need_v {B g n cap : Nat} {T : List Tok} {s : St} {w : World} (hT : TOk T) (h : Prs B g n cap T s w) (kind : Int) (text : ByteArray) {S : ByteArray} (hS : (⟨(takeT T s kind text.data.toList).2.1.toArray⟩ : ByteArray) = S) :
    ∃ k : Int, ∃ l : Nat, Calls Try.prog 18 #[.pointer (some ⟨B, 0, none⟩), .int .i64 kind, .string text] w fun e w' => e = .returned (.agg #[.int .i64 k, .string S, .int .i64 l]) ∧ Prs B g n cap T (needS T s kind text.data.toList) w' ∧ Upd B w w' := by
  have := need_c hT h kind text
  rw [Lib.toList_data, tokV_eq _ rfl hS rfl] at this
  exact ⟨_, _, this⟩
theorem Bk.two {b : Nat} {x y : Value} {w : World} (h : Bk b #[x, y] w) : w.cell? ⟨b, 0, none⟩ = some x ∧ w.cell? ⟨b, 1, none⟩ = some y := ⟨h.2.1 0, h.2.1 1⟩
theorem cat3 (a b : List UInt8) : (⟨a.toArray⟩ : ByteArray) ++ ((⟨#[47]⟩ : ByteArray) ++ ⟨b.toArray⟩) = ⟨(a ++ 47 :: b).toArray⟩ := by
  rw [← Lib.mk_data (_ ++ _), data_app', data_app']
  simp
theorem fld1 (k : Int) (S : ByteArray) (l : Int) (w : World) : (Instr.field 47 (.agg #[.int .i64 k, .string S, .int .i64 l]) 1).run Try.prog w = .ok (.string S) w := by kernel_rfl
theorem size_mk (l : List UInt8) : (⟨l.toArray⟩ : ByteArray).size = l.length := by simp [ByteArray.size]

set_option maxRecDepth 100000 in
set_option maxHeartbeats 4000000 in
theorem value_c {B g n cap : Nat} {T : List Tok} {s : St} {w : World} (hT : TOk T) (h : Prs B g n cap T s w) :
    Calls Try.prog 57 #[.pointer (some ⟨B, 0, none⟩)] w fun e w' => e = .returned (.string ⟨(valT T s).toArray⟩) ∧ Prs B g n cap T (valS T s) w' ∧ Upd B w w' := by
  have hBw : B < w.heap.size := h.blk.1
  have hBd : Below w.heap.size w (w.alloc (.cells #[.int .i64 1, .int .i64 3] 3)) := (Below.refl _ _).alloc (Nat.le_refl _) _
  have R0 := Lib.hid (Bk.new w #[.int .i64 1, .int .i64 3] 3)
  have h0 := Lib.hid (h.keep hBd)
  have hg := h.glt
  have hil : s.i < T.length := by rw [h.len]; exact h.i
  obtain ⟨W, hW⟩ : ∃ W, w.alloc (.cells #[.int .i64 1, .int .i64 3] 3) = W := ⟨_, rfl⟩
  rw [hW] at hBd R0 h0
  have HW := Lib.hid hW
  have hs0 := R0.out.1
  clear hW
  obtain ⟨b1, hb1⟩ : ∃ b, isP T s 1 [] = b := ⟨_, rfl⟩
  obtain ⟨S1, hS1⟩ : ∃ S : ByteArray, (⟨(takeT T s 1 []).2.1.toArray⟩ : ByteArray) = S := ⟨_, rfl⟩
  obtain ⟨ka, la, TA⟩ := take_v hT h0.out 1 ⟨#[]⟩ hb1 hS1
  have TA := Lib.hid TA
  cases b1
  · obtain ⟨b3, hb3⟩ : ∃ b, isP T s 3 [] = b := ⟨_, rfl⟩
    rw [show (⟨#[]⟩ : ByteArray).data.toList = [] from rfl, takeS_no hb1] at TA
    obtain ⟨S3, hS3⟩ : ∃ S : ByteArray, (⟨(takeT T s 3 []).2.1.toArray⟩ : ByteArray) = S := ⟨_, rfl⟩
    have TB := Lib.hid (fun w' (g' : Prs B g n cap T s w') => take_v hT g' 3 ⟨#[]⟩ hb3 hS3)
    obtain ⟨r0, r1⟩ := R0.out.two
    cases b3
    · rw [show (⟨#[]⟩ : ByteArray).data.toList = [] from rfl, takeS_no hb3] at TB
      obtain ⟨s2, hs2⟩ : ∃ x, needS T s 2 [] = x := ⟨_, rfl⟩
      obtain ⟨S2, hS2⟩ : ∃ S : ByteArray, (⟨(takeT T s 2 []).2.1.toArray⟩ : ByteArray) = S := ⟨_, rfl⟩
      have hz2 : S2.size ≤ 20000 := by rw [← hS2, size_mk]; exact takeT_len hT hil
      have NC := Lib.hid (fun w' (g' : Prs B g n cap T s w') => need_v hT g' 2 ⟨#[]⟩ hS2)
      rw [show (⟨#[]⟩ : ByteArray).data.toList = [] from rfl, hs2] at NC
      obtain ⟨b4, hb4⟩ : ∃ b, isP T s2 4 [47] = b := ⟨_, rfl⟩
      obtain ⟨S4, hS4⟩ : ∃ S : ByteArray, (⟨(takeT T s2 4 [47]).2.1.toArray⟩ : ByteArray) = S := ⟨_, rfl⟩
      obtain ⟨s4, hs4⟩ : ∃ x, takeS T s2 4 [47] = x := ⟨_, rfl⟩
      have TD := Lib.hid (fun w' (g' : Prs B g n cap T s2 w') => take_v hT g' 4 ⟨#[47]⟩ hb4 hS4)
      rw [show (⟨#[47]⟩ : ByteArray).data.toList = [47] from rfl, hs4] at TD
      have HVT : Hid (valT T s = if b4 then (takeT T s 2 []).2.1 ++ 47 :: (takeT T s4 2 []).2.1 else (takeT T s 2 []).2.1) := Lib.hid (by
        unfold valT
        rw [if_neg (by rw [hb1]; simp), if_neg (by rw [hb3]; simp), hs2, hs4, hb4])
      have HVS : Hid (valS T s = if b4 then needS T s4 2 [] else s2) := Lib.hid (by
        unfold valS
        rw [if_neg (by rw [hb1]; simp), if_neg (by rw [hb3]; simp), hs2, hs4, hb4])
      have HS2 := Lib.hid hS2
      have HS4 : Hid (b4 = false → s4 = s2) := Lib.hid (fun h => by rw [← hs4]; exact takeS_no (by rw [hb4]; exact h))
      clear hb1 hb3 hS1 hS3 hs2 hS2 hS4 hs4 hb4
      have hfd := fld1
      cases b4
      · obtain rfl := HS4.out rfl
        rw [HVT.out, HVS.out, if_neg (by simp), if_neg (by simp), HS2.out]
        go_enter Try.func57, Try.ntmps57
        go_wp2_with fail
        rw [HW.out]
        refine wp_loop_rounds 3 ?_
        rw [rounds_succ]
        go_wp2_with (go_at_call 35; ((with_reducible refine (TA.out).mono ?_); rintro e w1 ⟨rfl, hP1, hu1⟩; have hA1 := (Below.refl w1.heap.size w1).alloc (Nat.le_refl _) (.cells #[.int .i64 ka, .string S1, .int .i64 la] 47); have hs1 := hu1.below.size; have hP2 := Lib.hid (hP1.keep hA1); have hu2 := hu1.trans (Upd.of hA1 (by omega)); have R2 := Lib.hid ((R0.out.upd hu1 (by omega)).keep hA1); obtain ⟨r2, r3⟩ := R2.out.two))
        rw [rounds_succ]
        obtain ⟨kb, lb, TB1⟩ := TB.out _ hP2.out
        have TB1 := Lib.hid TB1
        go_wp2_with (go_at_call 35; ((with_reducible refine (TB1.out).mono ?_); rintro e w3 ⟨rfl, hP3, hu3⟩; have hA3 := (Below.refl w3.heap.size w3).alloc (Nat.le_refl _) (.cells #[.int .i64 kb, .string S3, .int .i64 lb] 47); have hs3 := hu3.below.size; have hP4 := Lib.hid (hP3.keep hA3); have hs2 := hu2.below.size; have hu4 := (hu2.trans hu3).trans (Upd.of hA3 (by omega)); have R4 := Lib.hid ((R2.out.upd hu3 (by omega)).keep hA3); obtain ⟨r4, r5⟩ := R4.out.two))
        rw [rounds_succ]
        obtain ⟨kc, lc, NC1⟩ := NC.out _ hP4.out
        have NC1 := Lib.hid NC1
        go_wp2_with (go_at_call 18; ((with_reducible refine (NC1.out).mono ?_); rintro e w5 ⟨rfl, hP5, hu5⟩; have hu5b := hu4.trans hu5; have hs5 := hu5b.below.size))
        obtain ⟨kd, ld, TD1⟩ := TD.out _ hP5
        have TD1 := Lib.hid TD1
        go_wp2_with (go_at_call 35; ((with_reducible refine (TD1.out).mono ?_); rintro e w6 ⟨rfl, hP6a, hu6a⟩; have hA6 := (Below.refl w6.heap.size w6).alloc (Nat.le_refl _) (.cells #[.int .i64 kd, .string S4, .int .i64 ld] 47); have hs6 := hu6a.below.size; have hP6 := Lib.hid (hP6a.keep hA6); have hu6 := (hu5b.trans hu6a).trans (Upd.of hA6 (by omega))))
        go_ret
        exact ⟨rfl, hP6.out, (Upd.of hBd (by omega)).trans hu6⟩
      · obtain ⟨S5, hS5⟩ : ∃ S : ByteArray, (⟨(takeT T s4 2 []).2.1.toArray⟩ : ByteArray) = S := ⟨_, rfl⟩
        obtain ⟨s5, hs5⟩ : ∃ x, needS T s4 2 [] = x := ⟨_, rfl⟩
        have NE := Lib.hid (fun w' (g' : Prs B g n cap T s4 w') => need_v hT g' 2 ⟨#[]⟩ hS5)
        rw [show (⟨#[]⟩ : ByteArray).data.toList = [] from rfl, hs5] at NE
        rw [HVT.out, HVS.out, if_pos rfl, if_pos rfl, hs5, ← cat3, HS2.out, hS5]
        have HZ5 : Hid (∀ w', Prs B g n cap T s4 w' → S5.size ≤ 20000) := Lib.hid (fun w' g' => by rw [← hS5, size_mk]; exact takeT_len hT (by rw [g'.len]; exact g'.i))
        clear hs5 hS5
        go_enter Try.func57, Try.ntmps57
        go_wp2_with fail
        rw [HW.out]
        refine wp_loop_rounds 3 ?_
        rw [rounds_succ]
        go_wp2_with (go_at_call 35; ((with_reducible refine (TA.out).mono ?_); rintro e w1 ⟨rfl, hP1, hu1⟩; have hA1 := (Below.refl w1.heap.size w1).alloc (Nat.le_refl _) (.cells #[.int .i64 ka, .string S1, .int .i64 la] 47); have hs1 := hu1.below.size; have hP2 := Lib.hid (hP1.keep hA1); have hu2 := hu1.trans (Upd.of hA1 (by omega)); have R2 := Lib.hid ((R0.out.upd hu1 (by omega)).keep hA1); obtain ⟨r2, r3⟩ := R2.out.two))
        rw [rounds_succ]
        obtain ⟨kb, lb, TB1⟩ := TB.out _ hP2.out
        have TB1 := Lib.hid TB1
        go_wp2_with (go_at_call 35; ((with_reducible refine (TB1.out).mono ?_); rintro e w3 ⟨rfl, hP3, hu3⟩; have hA3 := (Below.refl w3.heap.size w3).alloc (Nat.le_refl _) (.cells #[.int .i64 kb, .string S3, .int .i64 lb] 47); have hs3 := hu3.below.size; have hP4 := Lib.hid (hP3.keep hA3); have hs2 := hu2.below.size; have hu4 := (hu2.trans hu3).trans (Upd.of hA3 (by omega)); have R4 := Lib.hid ((R2.out.upd hu3 (by omega)).keep hA3); obtain ⟨r4, r5⟩ := R4.out.two))
        rw [rounds_succ]
        obtain ⟨kc, lc, NC1⟩ := NC.out _ hP4.out
        have NC1 := Lib.hid NC1
        go_wp2_with (go_at_call 18; ((with_reducible refine (NC1.out).mono ?_); rintro e w5 ⟨rfl, hP5, hu5⟩; have hu5b := hu4.trans hu5; have hs5 := hu5b.below.size))
        obtain ⟨kd, ld, TD1⟩ := TD.out _ hP5
        have TD1 := Lib.hid TD1
        go_wp2_with (go_at_call 35; ((with_reducible refine (TD1.out).mono ?_); rintro e w6 ⟨rfl, hP6a, hu6a⟩; have hA6 := (Below.refl w6.heap.size w6).alloc (Nat.le_refl _) (.cells #[.int .i64 kd, .string S4, .int .i64 ld] 47); have hs6 := hu6a.below.size; have hP6 := Lib.hid (hP6a.keep hA6); have hu6 := (hu5b.trans hu6a).trans (Upd.of hA6 (by omega))))
        have hz5 := HZ5.out _ hP6.out
        obtain ⟨kf, lf, NE1⟩ := NE.out _ hP6.out
        have NE1 := Lib.hid NE1
        go_wp2_with (go_at_call 18; ((with_reducible refine (NE1.out).mono ?_); rintro e w7 ⟨rfl, hP7, hu7⟩; have hu8 := hu6.trans hu7))
        go_ret
        exact ⟨rfl, hP7, (Upd.of hBd (by omega)).trans hu8⟩
    · have HVT : Hid (valT T s = (takeT T s 3 []).2.1) := Lib.hid (by unfold valT; rw [if_neg (by rw [hb1]; simp), if_pos hb3, takeT_yes hb3])
      have HVS : Hid (valS T s = takeS T s 3 []) := Lib.hid (by unfold valS; rw [if_neg (by rw [hb1]; simp), if_pos hb3])
      rw [HVT.out, hS3, HVS.out]
      obtain ⟨s1, hs1⟩ : ∃ x, takeS T s 3 [] = x := ⟨_, rfl⟩
      rw [show (⟨#[]⟩ : ByteArray).data.toList = [] from rfl, hs1] at TB
      rw [hs1]
      clear hb1 hb3 hS1 hS3 hs1 HVT HVS
      go_enter Try.func57, Try.ntmps57
      go_wp2_with fail
      rw [HW.out]
      refine wp_loop_rounds 2 ?_
      rw [rounds_succ]
      go_wp2_with (go_at_call 35; ((with_reducible refine (TA.out).mono ?_); rintro e w1 ⟨rfl, hP1, hu1⟩; have hA1 := (Below.refl w1.heap.size w1).alloc (Nat.le_refl _) (.cells #[.int .i64 ka, .string S1, .int .i64 la] 47); have hs1 := hu1.below.size; have hP2 := Lib.hid (hP1.keep hA1); have hu2 := hu1.trans (Upd.of hA1 (by omega)); have R2 := Lib.hid ((R0.out.upd hu1 (by omega)).keep hA1); obtain ⟨r2, r3⟩ := R2.out.two))
      rw [rounds_succ]
      obtain ⟨kb, lb, TB1⟩ := TB.out _ hP2.out
      have TB1 := Lib.hid TB1
      go_wp2_with (go_at_call 35; ((with_reducible refine (TB1.out).mono ?_); rintro e w3 ⟨rfl, hP3, hu3⟩; have hA3 := (Below.refl w3.heap.size w3).alloc (Nat.le_refl _) (.cells #[.int .i64 kb, .string S3, .int .i64 lb] 47); have hs3 := hu3.below.size; have hP4 := Lib.hid (hP3.keep hA3); have hu4 := (hu2.trans hu3).trans (Upd.of hA3 (by have := hu2.below.size; omega))))
      go_ret
      exact ⟨rfl, hP4.out, (Upd.of hBd (by omega)).trans hu4⟩
  · have HVT : Hid (valT T s = (takeT T s 1 []).2.1) := Lib.hid (by unfold valT; rw [if_pos hb1, takeT_yes hb1])
    have HVS : Hid (valS T s = takeS T s 1 []) := Lib.hid (by unfold valS; rw [if_pos hb1])
    rw [HVT.out, hS1, HVS.out]
    obtain ⟨s1, hs1⟩ : ∃ x, takeS T s 1 [] = x := ⟨_, rfl⟩
    rw [show (⟨#[]⟩ : ByteArray).data.toList = [] from rfl, hs1] at TA
    rw [hs1]
    clear hb1 hS1 hs1 HVT HVS
    obtain ⟨r0, r1⟩ := R0.out.two
    go_enter Try.func57, Try.ntmps57
    go_wp2_with fail
    rw [HW.out]
    refine wp_loop_rounds 1 ?_
    rw [rounds_succ]
    go_wp2_with (go_at_call 35; ((with_reducible refine (TA.out).mono ?_); rintro e w1 ⟨rfl, hP1, hu1⟩; have hA1 := (Below.refl w1.heap.size w1).alloc (Nat.le_refl _) (.cells #[.int .i64 ka, .string S1, .int .i64 la] 47); have hs1 := hu1.below.size; have hP2 := Lib.hid (hP1.keep hA1); have hu2 := hu1.trans (Upd.of hA1 (by omega))))
    go_ret
    exact ⟨rfl, hP2.out, (Upd.of hBd (by omega)).trans hu2⟩

end Go.Proofs.Ythdcgplocdehjaa
