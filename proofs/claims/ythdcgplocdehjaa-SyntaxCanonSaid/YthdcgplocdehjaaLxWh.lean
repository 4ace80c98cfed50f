import Derived.Test.YthdcgplocdehjaaLxWe
namespace Go.Proofs.Ythdcgplocdehjaa
open Go.RowKit Go.Proofs.Kit

theorem er23 : ElemRow Try.prog 43 47 (.agg #[.int .i64 0, .string ⟨#[]⟩, .int .i64 0]) 3 32 := ⟨Try.underlying43, by kernel_rfl, rfl, by decide⟩

abbrev Tok := Int × List UInt8 × Nat
def tokCells (x : Tok) : List Value := [.int .i64 x.1, .string ⟨x.2.1.toArray⟩, .int .i64 x.2.2]

def lexL : Nat → Nat → List UInt8 → Except Nat (List Tok)
  | 0, line, _ => .error line
  | f + 1, line, l =>
    if (l.drop (skipF false l)).length = 0 then .ok [(5, [], line + (l.take (skipF false l)).count 10)]
    else match nextL (l.drop (skipF false l)) with
      | none => .error (line + (l.take (skipF false l)).count 10)
      | some (k, t, n) => (lexL f (line + (l.take (skipF false l)).count 10) ((l.drop (skipF false l)).drop n)).map fun r => (k, t, line + (l.take (skipF false l)).count 10) :: r

theorem strL_len : ∀ (m : Nat) (l t : List UInt8) (n : Nat), l.length ≤ m → strL l = some (t, n) → 1 ≤ n ∧ n ≤ l.length := by
  intro m
  induction m with
  | zero => intro l t n hl h; cases l with
    | nil => simp [strL] at h
    | cons a r => simp at hl
  | succ m ih =>
    intro l t n hl h
    cases l with
    | nil => simp [strL] at h
    | cons c r =>
      unfold strL at h
      split at h
      · simp at h; simp; omega
      · split at h
        · cases r with
          | nil => simp at h
          | cons d r' =>
            simp only [] at h
            split at h
            · cases hs : strL r' with
              | none => rw [hs] at h; simp at h
              | some x =>
                rw [hs] at h; simp at h
                have := ih r' x.1 x.2 (by simp at hl; omega) hs
                simp; omega
            · simp at h
        · split at h
          · cases hs : strL r with
            | none => rw [hs] at h; simp at h
            | some x =>
              rw [hs] at h; simp at h
              have := ih r x.1 x.2 (by simp at hl; omega) hs
              simp; omega
          · simp at h

theorem nextL_len {l t : List UInt8} {k : Int} {n : Nat} (h : nextL l = some (k, t, n)) : 1 ≤ n ∧ n ≤ l.length := by
  unfold nextL at h
  have h1 := wordL_le l
  have h2 := numL_le l
  split at h
  · simp at h; omega
  · split at h
    · simp at h; omega
    · split at h
      · simp at h
      · split at h
        · rename_i c r _ _ _
          cases hs : strL r with
          | none => rw [hs] at h; simp at h
          | some x =>
            rw [hs] at h; simp at h
            have := strL_len _ r x.1 x.2 (Nat.le_refl _) hs
            simp; omega
        · split at h
          · simp at h; simp; omega
          · simp at h

def addT (acc : List Tok) (x : Except Nat (List Tok)) : Except Nat (List Tok) := x.map (acc ++ ·)

theorem addT_one (acc : List Tok) (t : Tok) (x : Except Nat (List Tok)) : addT acc (x.map (t :: ·)) = addT (acc ++ [t]) x := by
  cases x <;> simp [addT, Except.map]

/-- What 'All' hands back. -/
def ARet (B : Nat) (x : Except Nat (List Tok)) (e : Ending) (w' : World) : Prop := match x with
  | .ok l => ∃ v, e = .returned (.tuple #[v, .agg #[.int .i64 0, .int .i64 0]]) ∧ w'.ownsRow B 47 3 v l.length (l.flatMap tokCells)
  | .error n => e = .returned (.tuple #[.slice none 0 0, .agg #[.int .i64 1, .int .i64 n]])

def strSz : Value → Nat | .string S => S.size | _ => 0

theorem below_next {B : Nat} {w w' : World} (h : Below w.heap.size w w') (hB : B ≤ w.heap.size) : Below B w w' := h.mono hB

set_option maxHeartbeats 4000000 in
theorem all_any (s : ByteArray) (w : World) (hs : s.size ≤ 20000) :
    Calls Try.prog 17 #[.string s] w fun e w' => ARet w.heap.size (lexL (s.size + 1) 1 s.data.toList) e w' ∧ Below w.heap.size w w' := by
  go_enter Try.func17, Try.ntmps17
  go_wp2_with fail
  go_loopw [0, 4, 5] (fun tx v i wr => ∃ S : ByteArray, ∃ acc : List Tok, ∃ line f : Nat, tx = .string S ∧ S.size ≤ s.size ∧ acc.length + S.size ≤ s.size ∧ line + S.size ≤ s.size + 1 ∧ S.size < f ∧ i = .int .i64 line ∧
      wr.ownsRow (w.heap.size + 1) 47 3 v acc.length (acc.flatMap tokCells) ∧ Below (w.heap.size + 1) (w.alloc (.cells #[.int .i64 0, .int .i64 0] 27)) wr ∧
      Hid (lexL (s.size + 1) 1 s.data.toList = addT acc (lexL f line S.data.toList))) (fun tx _ _ _ => strSz tx)
  case atStart =>
    exact ⟨s, [], 1, s.size + 1, rfl, by omega, by simp, by omega, by omega, rfl, World.ownsRow_nil _ _ _ _, Below.refl _ _, Lib.hid (by cases lexL (s.size + 1) 1 s.data.toList <;> simp [addT, Except.map])⟩
  case round =>
    obtain ⟨S, acc, line, f, rfl, hSs, hac, hli, hf, rfl, hown, hbel, hP⟩ := hrel
    have hm : S.size ≤ maxLen := by unfold maxLen; omega
    have HM := Lib.hid hm
    obtain ⟨b, hb⟩ : ∃ b, b = skipF false S.data.toList := ⟨_, rfl⟩
    have hbl : b ≤ S.size := by rw [hb, Lib.size_eq]; exact skipF_le _ _
    obtain ⟨c, hc⟩ : ∃ c, c = (S.data.toList.take b).count 10 := ⟨_, rfl⟩
    have hcl : c ≤ b := by rw [hc]; exact Nat.le_trans List.count_le_length (by rw [List.length_take]; omega)
    have HB := Lib.hid hb
    have HC : Hid (c = Lib.countByte (S.extract 0 b).data.toList 10) := Lib.hid (by rw [ext_to]; exact hc)
    clear hm hb hc
    obtain ⟨T, hT⟩ : ∃ T, T = S.extract b S.size := ⟨_, rfl⟩
    have hTd : T.data.toList = S.data.toList.drop b := by rw [hT, ext_from]
    have hTs : T.size = S.size - b := by rw [Lib.size_eq, hTd, List.length_drop, ← Lib.size_eq]
    have hsz : w.heap.size + 1 ≤ wr.heap.size := by have := hbel.size; simpa using this
    have hf0 : wr.frozen? ⟨w.heap.size, 0, none⟩ = false := by rw [hbel.frozen (by simp)]; simp
    have hf1 : wr.frozen? ⟨w.heap.size, 1, none⟩ = false := by rw [hbel.frozen (by simp)]; simp
    have hc0 : wr.cell? ⟨w.heap.size, 0, none⟩ = some (.int .i64 0) := by rw [hbel.cell (by simp)]; simp
    have hc1 : wr.cell? ⟨w.heap.size, 1, none⟩ = some (.int .i64 0) := by rw [hbel.cell (by simp)]; simp
    have h0B : Below w.heap.size w wr := ((Below.refl w.heap.size w).alloc (Nat.le_refl _) _).trans (hbel.mono (by omega))
    by_cases h0 : 0 < T.size
    · have hE : (S.extract b S.size).toList.isEmpty = false := by rw [← hT]; exact bempty_f _ h0
      have HT := Lib.hid hT
      have HTd := Lib.hid hTd
      have HTs := Lib.hid hTs
      clear hT hTd hTs
      go_wp2_with (first
        | (go_at_call 32; refine (skip_any _ _ HM.out).mono ?_; rintro e w' ⟨rfl, rfl⟩; rw [← HB.out])
        | (go_at_call 33; refine (Try.strings_Count_one _ _ _).mono ?_; rintro e w' ⟨rfl, rfl⟩; rw [← HC.out]))
      have HTM : Hid (T.size ≤ 140737488351232) := Lib.hid (by rw [HTs.out]; omega)
      cases hn : nextL T.data.toList with
      | none =>
        have k1 : Hid (lexL f line S.data.toList = .error (line + c)) := by
          obtain ⟨f', rfl⟩ : ∃ f', f = f' + 1 := ⟨f - 1, by omega⟩
          unfold lexL
          rw [← HB.out, ← HTd.out, if_neg (by rw [← Lib.size_eq]; omega), hn]
          simp only []
          rw [show c = (S.data.toList.take b).count 10 by rw [HC.out, ext_to]; rfl]; exact Lib.hid rfl
        have HN := Lib.hid hn
        clear hn
        rw [← HT.out]
        go_wp2_with (go_at_call 34; refine (next_any _ _ HTM.out h0).mono ?_; rw [HN.out]; rintro e w2 ⟨⟨kk, rfl⟩, hbn⟩; have hc02 := cell_below hbn hc0 hsz; have hc12 := cell_below hbn hc1 hsz; have hf02 := free_below hbn hf0 hsz; have hf12 := free_below hbn hf1 hsz)
        refine bodyPost_ret (v := .tuple #[.slice none 0 0, .agg #[.int .i64 1, .int .i64 (line + c : Nat)]]) (by simp [results, Try.results17, go_sem, hc02, hc12]) rfl ⟨?_, ?_⟩
        · rw [hP.out, k1.out]
          rfl
        · exact Below.setCell (Below.setCell (h0B.trans (hbn.mono (by omega))) (by simp) _) (by simp) _
      | some x =>
        obtain ⟨kk, t, n⟩ := x
        have hnl := nextL_len hn
        rw [← Lib.size_eq] at hnl
        have k1 : Hid (lexL f line S.data.toList = (lexL (f - 1) (line + c) (T.data.toList.drop n)).map fun r => (kk, t, line + c) :: r) := by
          obtain ⟨f', rfl⟩ : ∃ f', f = f' + 1 := ⟨f - 1, by omega⟩
          conv => arg 1; lhs; unfold lexL
          rw [← HB.out, ← HTd.out, if_neg (by rw [← Lib.size_eq]; omega), hn]
          simp only []
          rw [show c = (S.data.toList.take b).count 10 by rw [HC.out, ext_to]; rfl]; exact Lib.hid rfl
        have HN := Lib.hid hn
        have hTs1 : T.size ≤ S.size - b := Nat.le_of_eq HTs.out
        have hTs2 : S.size - b ≤ T.size := Nat.le_of_eq HTs.out.symm
        clear hn
        rw [← HT.out]
        go_wp2_with (first
          | (go_at_call 34; refine (next_any _ _ HTM.out h0).mono ?_; rw [HN.out]; rintro e w2 ⟨rfl, hbn⟩; have hc02 := cell_below hbn hc0 hsz; have hc12 := cell_below hbn hc1 hsz; have hf02 := free_below hbn hf0 hsz; have hf12 := free_below hbn hf1 hsz; have hown2 := ownsRow_below hown hbn; have hsz2 := Nat.le_trans hsz hbn.size)
          | (at_builtin; go_must (refine append_one er23 rfl rfl hown2 rfl rfl rfl (by simp [Value.oneCell']) (by omega) (by omega) hsz2 ?_); intro v' w1 hown1 hg1 hb1 hne1))
        go_roundw
        case rel =>
          refine ⟨T.extract n T.size, acc ++ [(kk, t, line + c)], line + c, f - 1, rfl, ?_, ?_, ?_, ?_, by go_num, by simpa [tokCells] using hown1, hbel.trans ((hbn.mono hsz).trans hb1), Lib.hid ?_⟩
          · rw [Lib.size_eq, ext_from, List.length_drop, ← Lib.size_eq]; omega
          · rw [Lib.size_eq, ext_from, List.length_drop, ← Lib.size_eq, List.length_append, List.length_singleton]; omega
          · rw [Lib.size_eq, ext_from, List.length_drop, ← Lib.size_eq]; omega
          · rw [Lib.size_eq, ext_from, List.length_drop, ← Lib.size_eq]; omega
          · rw [hP.out, k1.out, addT_one, ext_from]
        case measure =>
          simp only [strSz]
          show (T.extract n T.size).size < S.size
          rw [Lib.size_eq, ext_from, List.length_drop, ← Lib.size_eq]; omega
    · have hE : (S.extract b S.size).toList.isEmpty = true := by rw [← hT]; exact bempty_t _ h0
      have k1 : Hid (lexL f line S.data.toList = .ok [(5, [], line + c)]) := by
        obtain ⟨f', rfl⟩ : ∃ f', f = f' + 1 := ⟨f - 1, by omega⟩
        unfold lexL
        rw [← HB.out, ← hTd, if_pos (by rw [← Lib.size_eq]; omega)]
        rw [show c = (S.data.toList.take b).count 10 by rw [HC.out, ext_to]; rfl]; exact Lib.hid rfl
      have HT := Lib.hid hT
      have HTd := Lib.hid hTd
      have HTs := Lib.hid hTs
      clear hT hTd hTs
      go_wp2_with (first
        | (go_at_call 32; refine (skip_any _ _ HM.out).mono ?_; rintro e w' ⟨rfl, rfl⟩; rw [← HB.out])
        | (go_at_call 33; refine (Try.strings_Count_one _ _ _).mono ?_; rintro e w' ⟨rfl, rfl⟩; rw [← HC.out])
        | (at_builtin; go_must (refine append_one er23 rfl rfl hown rfl rfl rfl (by simp [Value.oneCell']) (by omega) (by omega) hsz ?_); intro v' w1 hown1 hg1 hb1 hne1; have hc01 := cell_below hb1 hc0 (by simp); have hc11 := cell_below hb1 hc1 (by simp); have hf01 := free_below hb1 hf0 (by simp); have hf11 := free_below hb1 hf1 (by simp)))
      refine bodyPost_ret (v := .tuple #[v', .agg #[.int .i64 0, .int .i64 0]]) (by simp [results, Try.results17, go_sem, hc01, hc11]) rfl ⟨?_, ?_⟩
      · rw [hP.out, k1.out]
        refine ⟨v', rfl, ?_⟩
        refine Go.Joins.ownsRow_le (base := w.heap.size + 1) (ownsRow_setCell_below (ownsRow_setCell_below ?_ (by simp) _) (by simp) _) (by omega)
        simpa [tokCells] using hown1
      · exact Below.setCell (Below.setCell (h0B.trans (hb1.mono (by omega))) (by simp) _) (by simp) _

end Go.Proofs.Ythdcgplocdehjaa
