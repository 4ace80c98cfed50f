import Derived.Test.YtcjgilfbcoadjaaLb
import Derived.Test.YtcjgilfbcoadjaaRd
namespace Go.Proofs.Ytcjgilfbcoadjaa
open Go.RowKit Go.Proofs.Kit

theorem strL_esc : ∀ (l : List UInt8), l.all isPrint = true → strL (escL l ++ [34]) = some (l, (escL l).length + 1) := by
  intro l
  induction l with
  | nil => intro _; rfl
  | cons c r ih =>
    intro h
    rw [List.all_cons, Bool.and_eq_true] at h
    have hr := ih h.2
    have e : escL (c :: r) = (if ((c.toNat : Int) == 34 || (c.toNat : Int) == 92) then [92, c] else [c]) ++ escL r := rfl
    rw [e]
    cases hc : ((c.toNat : Int) == 34 || (c.toNat : Int) == 92)
    · simp only [Bool.false_eq_true, if_false, List.nil_append, List.cons_append, List.length_cons]
      rw [Bool.or_eq_false_iff] at hc
      unfold strL
      rw [hc.1, hc.2, h.1]
      simp only [Bool.false_eq_true, if_false, if_true, hr]
      rfl
    · simp only [if_true, List.cons_append, List.nil_append, List.length_cons]
      unfold strL
      simp only [show (((92 : UInt8).toNat : Int) == 34) = false from rfl, show (((92 : UInt8).toNat : Int) == 92) = true from rfl, hc, Bool.false_eq_true, if_false, if_true, hr]
      rfl

theorem esc_len (l : List UInt8) : (escL l).length ≤ 2 * l.length := by
  induction l with
  | nil => simp [escL]
  | cons c r ih =>
    have e : escL (c :: r) = (if ((c.toNat : Int) == 34 || (c.toNat : Int) == 92) then [92, c] else [c]) ++ escL r := rfl
    rw [e, List.length_append, List.length_cons]
    split <;> simp <;> omega

theorem lex_quoted (l : List UInt8) (h : l.all isPrint = true) (f : Nat) : lexL (f + 2) 1 (34 :: escL l ++ [34]) = .ok [(3, l, 1), (5, [], 1)] := by
  have hs : skipF false (34 :: escL l ++ [34]) = 0 := by
    rw [List.cons_append]; unfold skipF; rw [if_neg (by decide), if_neg (by decide)]
  have hn : nextL (34 :: escL l ++ [34]) = some (3, l, (escL l).length + 2) := by
    rw [List.cons_append]
    unfold nextL
    have h1 : wordL (34 :: (escL l ++ [34])) = 0 := by rw [wordL_cons, if_neg (by decide)]
    have h2 : numL (34 :: (escL l ++ [34])) = 0 := by
      unfold numL
      have : spanL isDigit (34 :: (escL l ++ [34])) = 0 := by unfold spanL; rw [List.takeWhile_cons_of_neg (by decide)]; rfl
      rw [this]; rfl
    rw [h1, h2, if_neg (by omega), if_neg (by omega)]
    simp only [show (((34 : UInt8).toNat : Int) == 34) = true from rfl, if_true, strL_esc l h]
    rfl
  unfold lexL
  rw [hs, List.drop_zero, hn, if_neg (by simp)]
  simp only [List.take_zero, List.count_nil, Nat.add_zero]
  have hd : (34 :: escL l ++ [34]).drop ((escL l).length + 2) = [] := List.drop_of_length_le (by simp)
  rw [hd]
  rfl

set_option maxHeartbeats 2000000 in
theorem walk_LexQuote (a : ByteArray) (ha : a.size ≤ maxLen) (w : World) :
    Calls Try.prog 8 #[.string a] w fun e w' => e = .returned (.bool true) ∧ Below w.heap.size w w' := by
  obtain ⟨S, hS⟩ : ∃ S, S = a.extract 0 (min a.size 60) := ⟨_, rfl⟩
  have hs : S.size ≤ 60 := by rw [hS]; exact short_size a 60
  have HS := Lib.hid hS
  have H2 : Hid (S.size ≤ 1000000) := Lib.hid (by omega)
  clear hS
  obtain ⟨Q, hQ⟩ : ∃ Q : ByteArray, Q = ⟨(quoteL S.data.toList).1.toArray⟩ := ⟨_, rfl⟩
  have hQd : Q.data.toList = (quoteL S.data.toList).1 := by rw [hQ]
  cases hp : S.data.toList.all isPrint
  · have hq2 : quoteL S.data.toList = ([], false) := by unfold quoteL; rw [hp]; rfl
    rw [hq2] at hQd
    have hQs : Q.size = 0 := by rw [Lib.size_eq, hQd]; rfl
    have HR : Hid (lexL (Q.size + 1) 1 Q.data.toList = .ok [(5, [], 1)]) := Lib.hid (by rw [hQs, hQd]; rfl)
    have HQ1 : Hid ((⟨(quoteL S.data.toList).1.toArray⟩ : ByteArray) = Q) := Lib.hid hQ.symm
    have HQ2 : Hid ((quoteL S.data.toList).2 = false) := Lib.hid (by rw [hq2])
    have HQs : Hid (Q.size ≤ 20000) := Lib.hid (by omega)
    have hqq : (Q.toList != Q.toList) = false := by simp
    clear hp hq2 hQd hQs hQ
    go_enter Try.func8, Try.ntmps8
    go_wp2_with (first
      | (go_at_call 9; refine (short_any _ 60 _ ha (by omega)).mono ?_; rintro e w1 ⟨rfl, rfl⟩; rw [← HS.out])
      | (go_at_call 16; refine (quote_any _ _ H2.out).mono ?_; rw [HQ1.out, HQ2.out]; rintro e w1 ⟨rfl, hb1⟩)
      | (go_at_call 17; refine (rquote_any _ _ H2.out).mono ?_; rw [HQ1.out, HQ2.out]; rintro e w2 ⟨rfl, rfl⟩)
      | (go_at_call 10; refine (all_any _ _ HQs.out).mono ?_; rw [HR.out]; rintro e w3 ⟨⟨v3, rfl, hown3⟩, hb3⟩)
      | (go_at_call 12; refine (awake_any _).mono ?_; rintro e w4 ⟨rfl, hb4⟩))
    go_ret
    exact ⟨rfl, bel3 hb1 hb3 (below_on hb4) (Below.refl _ _)⟩
  · have hq2 : quoteL S.data.toList = (34 :: escL S.data.toList ++ [34], true) := by unfold quoteL; rw [hp]; rfl
    rw [hq2] at hQd
    have hel := esc_len S.data.toList
    rw [← Lib.size_eq] at hel
    have hQs : Q.size = (escL S.data.toList).length + 2 := by rw [Lib.size_eq, hQd]; simp
    have HR : Hid (lexL (Q.size + 1) 1 Q.data.toList = .ok [(3, S.data.toList, 1), (5, [], 1)]) := Lib.hid (by rw [hQs, hQd]; exact lex_quoted _ hp _)
    have HQ1 : Hid ((⟨(quoteL S.data.toList).1.toArray⟩ : ByteArray) = Q) := Lib.hid hQ.symm
    have HQ2 : Hid ((quoteL S.data.toList).2 = true) := Lib.hid (by rw [hq2])
    have HQs : Hid (Q.size ≤ 20000) := Lib.hid (by omega)
    clear hp hq2 hQd hQs hQ hel
    go_enter Try.func8, Try.ntmps8
    go_wp2_with (first
      | (go_at_call 9; refine (short_any _ 60 _ ha (by omega)).mono ?_; rintro e w1 ⟨rfl, rfl⟩; rw [← HS.out])
      | (go_at_call 16; refine (quote_any _ _ H2.out).mono ?_; rw [HQ1.out, HQ2.out]; rintro e w1 ⟨rfl, hb1⟩)
      | (go_at_call 17; refine (rquote_any _ _ H2.out).mono ?_; rw [HQ1.out, HQ2.out]; rintro e w2 ⟨rfl, rfl⟩)
      | (go_at_call 10; refine (all_any _ _ HQs.out).mono ?_; rw [HR.out]; rintro e w3 ⟨⟨v3, rfl, hown3⟩, hb3⟩; obtain ⟨g3, c3, rfl⟩ := Go.Joins.ownsRow_form hown3 (by simp); have x0 : w3.cell? ⟨g3, 0, none⟩ = some (.int .i64 3) := hown3.cellAt 0 (by simp); have x1 : w3.cell? ⟨g3, 1, none⟩ = some (.string S) := (hown3.cellAt 1 (by simp)).trans (by simp [tokCells]); have x2 : w3.cell? ⟨g3, 2, none⟩ = some (.int .i64 1) := hown3.cellAt 2 (by simp))
      | (go_at_call 12; refine (awake_any _).mono ?_; rintro e w4 ⟨rfl, hb4⟩; have y0 := cell_on hb4 x0; have y1 := cell_on hb4 x1; have y2 := cell_on hb4 x2; have f0 := cell_new hb4 (off := 0) rfl; have f1 := cell_new hb4 (off := 1) rfl))
    go_ret
    exact ⟨rfl, bel3 hb1 hb3 (below_on hb4) (Below.refl _ _)⟩

end Go.Proofs.Ytcjgilfbcoadjaa
