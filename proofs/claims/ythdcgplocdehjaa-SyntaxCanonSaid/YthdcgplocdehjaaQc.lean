/- The reference's reader: value. -/
import Derived.Test.YthdcgplocdehjaaQb
namespace Go.Proofs.Ythdcgplocdehjaa
open Go.RowKit Go.Proofs.Kit

theorem cat3' (a b : List UInt8) : ((⟨a.toArray⟩ : ByteArray) ++ (⟨#[47]⟩ : ByteArray)) ++ ⟨b.toArray⟩ = ⟨(a ++ 47 :: b).toArray⟩ := by
  rw [← Lib.mk_data (_ ++ _), data_app', data_app']
  simp
theorem need_take {T : List Tok} {s : St} {kind : Int} {text : List UInt8} (h : isP T s kind text = true) : needS T s kind text = takeS T s kind text := by rw [needS_yes h, takeS_yes h]
theorem at_v {B g n cap : Nat} {T : List Tok} {s : St} {w : World} (hT : TOk T) (h : Rdr B g n cap T s w) (kind : Int) (text : ByteArray) {b : Bool} (hb : isP T s kind text.data.toList = b) :
    Calls Try.prog 22 #[.pointer (some ⟨B, 0, none⟩), .int .i64 kind, .string text] w fun e w' => e = .returned (.bool b) ∧ Rdr B g n cap T s w' ∧ Upd B w w' :=
  (at_c hT h kind text).mono (by
    rintro e w' ⟨rfl, hbe⟩
    rw [Lib.toList_data, hb]
    exact ⟨rfl, h.keep hbe, Upd.of hbe (Nat.le_of_lt h.blk.1)⟩)
theorem rtake_v {B g n cap : Nat} {T : List Tok} {s s' : St} {w : World} (hT : TOk T) (h : Rdr B g n cap T s w) (kind : Int) (text : ByteArray) {S : ByteArray} (hS : (⟨(takeT T s kind text.data.toList).2.1.toArray⟩ : ByteArray) = S) (hs : needS T s kind text.data.toList = s') :
    Calls Try.prog 21 #[.pointer (some ⟨B, 0, none⟩), .int .i64 kind, .string text] w fun e w' => e = .returned (.string S) ∧ Rdr B g n cap T s' w' ∧ Upd B w w' := by
  have := rtake_c hT h kind text
  rw [Lib.toList_data, hS, hs] at this
  exact this

set_option maxRecDepth 100000 in
set_option maxHeartbeats 4000000 in
theorem rvalue_word {B g n cap : Nat} {T : List Tok} {s : St} {w : World} (hT : TOk T) (h : Rdr B g n cap T s w) (hb : isP T s 1 [] = true) :
    Calls Try.prog 58 #[.pointer (some ⟨B, 0, none⟩)] w fun e w' => e = .returned (.string ⟨(valT T s).toArray⟩) ∧ Rdr B g n cap T (valS T s) w' ∧ Upd B w w' := by
  obtain ⟨S, hS⟩ : ∃ S : ByteArray, (⟨(takeT T s 1 []).2.1.toArray⟩ : ByteArray) = S := ⟨_, rfl⟩
  have e1 : valT T s = (takeT T s 1 []).2.1 := by unfold valT; rw [if_pos hb, takeT_yes hb]
  have e2 : valS T s = needS T s 1 [] := by unfold valS; rw [if_pos hb, need_take hb]
  have AT := Lib.hid (at_v hT h 1 ⟨#[]⟩ hb)
  have TK := Lib.hid (fun w' (g' : Rdr B g n cap T s w') => rtake_v hT g' 1 ⟨#[]⟩ hS rfl)
  rw [show (⟨#[]⟩ : ByteArray).data.toList = [] from rfl] at TK
  rw [e1, e2, hS]
  obtain ⟨s1, hs1⟩ : ∃ x, needS T s 1 [] = x := ⟨_, rfl⟩
  rw [hs1] at TK ⊢
  clear hb hS e1 e2 hs1
  go_enter Try.func58, Try.ntmps58
  go_wp2_with (first
    | (go_at_call 22; ((with_reducible refine (AT.out).mono ?_); rintro e w1 ⟨rfl, hP1, hu1⟩))
    | (go_at_call 21; ((with_reducible refine (TK.out _ hP1).mono ?_); rintro e w2 ⟨rfl, hP2, hu2⟩)))
  go_ret
  exact ⟨rfl, hP2, hu1.trans hu2⟩

set_option maxRecDepth 100000 in
set_option maxHeartbeats 4000000 in
theorem rvalue_num {B g n cap : Nat} {T : List Tok} {s : St} {w : World} (hT : TOk T) (h : Rdr B g n cap T s w) (hb : isP T s 1 [] = false) (hb3 : isP T s 3 [] = false) :
    Calls Try.prog 58 #[.pointer (some ⟨B, 0, none⟩)] w fun e w' => e = .returned (.string ⟨(valT T s).toArray⟩) ∧ Rdr B g n cap T (valS T s) w' ∧ Upd B w w' := by
  have hil : s.i < T.length := by rw [h.len]; exact h.i
  obtain ⟨s2, hs2⟩ : ∃ x, needS T s 2 [] = x := ⟨_, rfl⟩
  obtain ⟨S2, hS2⟩ : ∃ S : ByteArray, (⟨(takeT T s 2 []).2.1.toArray⟩ : ByteArray) = S := ⟨_, rfl⟩
  have hz2 : S2.size ≤ 20000 := by rw [← hS2, size_mk]; exact takeT_len hT hil
  obtain ⟨b4, hb4⟩ : ∃ b, isP T s2 4 [47] = b := ⟨_, rfl⟩
  obtain ⟨s4, hs4⟩ : ∃ x, takeS T s2 4 [47] = x := ⟨_, rfl⟩
  have HVT : Hid (valT T s = if b4 then (takeT T s 2 []).2.1 ++ 47 :: (takeT T s4 2 []).2.1 else (takeT T s 2 []).2.1) := Lib.hid (by
    unfold valT
    rw [if_neg (by rw [hb]; simp), if_neg (by rw [hb3]; simp), hs2, hs4, hb4])
  have HVS : Hid (valS T s = if b4 then needS T s4 2 [] else s2) := Lib.hid (by
    unfold valS
    rw [if_neg (by rw [hb]; simp), if_neg (by rw [hb3]; simp), hs2, hs4, hb4])
  have AT1 := Lib.hid (at_v hT h 1 ⟨#[]⟩ hb)
  have AT3 := Lib.hid (fun w' (g' : Rdr B g n cap T s w') => at_v hT g' 3 ⟨#[]⟩ hb3)
  have TK := Lib.hid (fun w' (g' : Rdr B g n cap T s w') => rtake_v hT g' 2 ⟨#[]⟩ hS2 hs2)
  have AT4 := Lib.hid (fun w' (g' : Rdr B g n cap T s2 w') => at_v hT g' 4 ⟨#[47]⟩ hb4)
  have HS2 := Lib.hid hS2
  cases b4
  · rw [HVT.out, HVS.out, if_neg (by simp), if_neg (by simp), HS2.out]
    clear hb hb3 hs2 hS2 hb4 hs4
    go_enter Try.func58, Try.ntmps58
    go_wp2_with (first
      | (go_at_call 22; ((with_reducible refine (AT1.out).mono ?_); rintro e w1 ⟨rfl, hP1, hu1⟩))
      | (go_at_call 22; ((with_reducible refine (AT3.out _ hP1).mono ?_); rintro e w2 ⟨rfl, hP2, hu2⟩))
      | (go_at_call 21; ((with_reducible refine (TK.out _ hP2).mono ?_); rintro e w3 ⟨rfl, hP3, hu3⟩))
      | (go_at_call 22; ((with_reducible refine (AT4.out _ hP3).mono ?_); rintro e w4 ⟨rfl, hP4, hu4⟩)))
    go_ret
    exact ⟨rfl, hP4, ((hu1.trans hu2).trans hu3).trans hu4⟩
  · obtain ⟨S5, hS5⟩ : ∃ S : ByteArray, (⟨(takeT T s4 2 []).2.1.toArray⟩ : ByteArray) = S := ⟨_, rfl⟩
    obtain ⟨s5, hs5⟩ : ∃ x, needS T s4 2 [] = x := ⟨_, rfl⟩
    have TE := Lib.hid (fun w' (g' : Rdr B g n cap T s4 w') => rtake_v hT g' 2 ⟨#[]⟩ hS5 hs5)
    have HZ5 : Hid (∀ w', Rdr B g n cap T s4 w' → S5.size ≤ 20000) := Lib.hid (fun w' g' => by rw [← hS5, size_mk]; exact takeT_len hT (by rw [g'.len]; exact g'.i))
    obtain ⟨i2, f2⟩ := s2
    have hk4 := (isP_kind hb4).2
    have h4 : s4 = ⟨i2 + 1, f2⟩ := by rw [← hs4, takeS_yes hb4]; unfold nextP; rw [if_neg (by decide)]
    have HNX : Hid (∀ w', Rdr B g n cap T ⟨i2, f2⟩ w' → Rdr B g n cap T s4 (w'.setCell ⟨B, 1, none⟩ (.int .i64 ((i2 : Int) + 1)))) := Lib.hid (fun w' g' => by
      rw [h4]
      exact g'.next (by rw [← g'.len]; exact hT.last i2 (by rw [g'.len]; exact g'.i) (by rw [hk4]; decide)) (by omega))
    have HI2 : Hid (∀ w', Rdr B g n cap T ⟨i2, f2⟩ w' → i2 ≤ 20001 ∧ w'.cell? ⟨B, 1, none⟩ = some (.int .i64 i2)) := Lib.hid (fun w' g' => ⟨by have := g'.i; have := g'.len; have := hT.num; simp only at *; omega, g'.blk.three.2.1⟩)
    rw [HVT.out, HVS.out, if_pos rfl, if_pos rfl, hs5]
    have HC : Hid ((⟨((takeT T s 2 []).2.1 ++ 47 :: (takeT T s4 2 []).2.1).toArray⟩ : ByteArray) = (S2 ++ (⟨#[47]⟩ : ByteArray)) ++ S5) := Lib.hid (by rw [← cat3', HS2.out, hS5])
    rw [HC.out]
    clear hb hb3 hs2 hS2 hb4 hs4 hS5 hs5 hk4 h4
    go_enter Try.func58, Try.ntmps58
    go_wp2_with (first
      | (go_at_call 22; ((with_reducible refine (AT1.out).mono ?_); rintro e w1 ⟨rfl, hP1, hu1⟩))
      | (go_at_call 22; ((with_reducible refine (AT3.out _ hP1).mono ?_); rintro e w2 ⟨rfl, hP2, hu2⟩))
      | (go_at_call 21; ((with_reducible refine (TK.out _ hP2).mono ?_); rintro e w3 ⟨rfl, hP3, hu3⟩))
      | (go_at_call 22; ((with_reducible refine (AT4.out _ hP3).mono ?_); rintro e w4 ⟨rfl, hP4, hu4⟩; obtain ⟨hi4, hk1⟩ := HI2.out _ hP4; have hfz := hP4.blk.free3.2.1; have hP5 := Lib.hid (HNX.out _ hP4); have hz5 := HZ5.out _ hP5.out))
      | (go_at_call 21; ((with_reducible refine (TE.out _ hP5.out).mono ?_); rintro e w6 ⟨rfl, hP6, hu6⟩)))
    go_ret
    exact ⟨rfl, hP6, ((((hu1.trans hu2).trans hu3).trans hu4).trans ((Upd.refl B w4).set 1 _)).trans hu6⟩

set_option maxRecDepth 100000 in
set_option maxHeartbeats 4000000 in
theorem rvalue_str {B g n cap : Nat} {T : List Tok} {s : St} {w : World} (hT : TOk T) (h : Rdr B g n cap T s w) (hb : isP T s 1 [] = false) (hb3 : isP T s 3 [] = true) :
    Calls Try.prog 58 #[.pointer (some ⟨B, 0, none⟩)] w fun e w' => e = .returned (.string ⟨(valT T s).toArray⟩) ∧ Rdr B g n cap T (valS T s) w' ∧ Upd B w w' := by
  have e1 : valT T s = (tk T s.i).2.1 := by unfold valT; rw [if_neg (by rw [hb]; simp), if_pos hb3]
  have e2 : valS T s = takeS T s 3 [] := by unfold valS; rw [if_neg (by rw [hb]; simp), if_pos hb3]
  have AT1 := Lib.hid (at_v hT h 1 ⟨#[]⟩ hb)
  have AT3 := Lib.hid (fun w' (g' : Rdr B g n cap T s w') => at_v hT g' 3 ⟨#[]⟩ hb3)
  obtain ⟨i, f⟩ := s
  have hk3 := (isP_kind hb3).2
  have hi := h.i
  have hln := h.len
  have hTn := hT.num
  have h4 : takeS T ⟨i, f⟩ 3 [] = ⟨i + 1, f⟩ := by rw [takeS_yes hb3]; unfold nextP; rw [if_neg (by decide)]
  have hin : i + 1 < n := by rw [← h.len]; exact hT.last i (by rw [h.len]; exact h.i) (by rw [hk3]; decide)
  simp only at e1
  rw [e1, e2, h4]
  obtain ⟨S, hS⟩ : ∃ S : ByteArray, (⟨(tk T i).2.1.toArray⟩ : ByteArray) = S := ⟨_, rfl⟩
  have HNX : Hid (∀ w', Rdr B g n cap T ⟨i, f⟩ w' → Rdr B g n cap T ⟨i + 1, f⟩ (w'.setCell ⟨B, 1, none⟩ (.int .i64 ((i : Int) + 1)))) := Lib.hid (fun w' g' => g'.next hin (by omega))
  have HC : Hid (∀ w' s', Rdr B g n cap T s' w' → w'.cell? ⟨g, i * 3 + 1, none⟩ = some (.string S)) := Lib.hid (fun w' s' g' => by rw [← hS]; exact (g'.row i (by omega)).2.1)
  rw [hS]
  have hc1 := h.cap1
  have hc2 := h.cap2
  have iz : (i : Int) < (n : Int) := by omega
  clear hb hb3 e1 e2 hk3 h4 hS hln hT
  go_enter Try.func58, Try.ntmps58
  go_wp2_with (first
    | (go_at_call 22; ((with_reducible refine (AT1.out).mono ?_); rintro e w1 ⟨rfl, hP1, hu1⟩))
    | (go_at_call 22; ((with_reducible refine (AT3.out _ hP1).mono ?_); rintro e w2 ⟨rfl, hP2, hu2⟩; have hk1 := hP2.blk.three.2.1; have hk0 := hP2.blk.three.1; have hfz := hP2.blk.free3.2.1; have hP5 := Lib.hid (HNX.out _ hP2); obtain ⟨a0, a1, _⟩ := hP5.out.blk.three; have hc5 := HC.out _ _ hP5.out; have hP6 := Lib.hid (hP5.out.keep (Below.refl _ _).drew); obtain ⟨b0, b1, _⟩ := hP6.out.blk.three; have hc6 := HC.out _ _ hP6.out)))
  go_quiet (fail)
  go_wp2_with fail
  go_ret
  refine ⟨rfl, hP5.out.keep (below_drewN (Below.refl _ _) _), ((hu1.trans hu2).trans ((Upd.refl B w2).set 1 _)).trans (Upd.of (below_drewN (Below.refl _ _) _) (Nat.le_of_lt hP5.out.blk.1))⟩

theorem rvalue_c {B g n cap : Nat} {T : List Tok} {s : St} {w : World} (hT : TOk T) (h : Rdr B g n cap T s w) :
    Calls Try.prog 58 #[.pointer (some ⟨B, 0, none⟩)] w fun e w' => e = .returned (.string ⟨(valT T s).toArray⟩) ∧ Rdr B g n cap T (valS T s) w' ∧ Upd B w w' := by
  cases hb : isP T s 1 [] with
  | true => exact rvalue_word hT h hb
  | false =>
    cases hb3 : isP T s 3 [] with
    | true => exact rvalue_str hT h hb hb3
    | false => exact rvalue_num hT h hb hb3

end Go.Proofs.Ythdcgplocdehjaa
