import Derived.Test.YthdcgplocdehjaaLxRc
namespace Go.Proofs.Ythdcgplocdehjaa
open Go.RowKit Go.Proofs.Kit

def refL : Nat → Nat → List UInt8 → Except Nat (List Tok)
  | 0, line, _ => .error line
  | _ + 1, line, [] => .ok [(5, [], line)]
  | f + 1, line, c :: r =>
    if (c.toNat : Int) == 35 then refL f line ((c :: r).drop (spanL notNl (c :: r)))
    else if inL c [32, 9, 10, 13] then refL f (if (c.toNat : Int) == 10 then line + 1 else line) r
    else match oneL (c :: r) with
      | none => .error line
      | some (k, t, n) => (refL f line ((c :: r).drop n)).map fun x => (k, t, line) :: x

theorem wordB_len {l : List UInt8} (h : wordB l = true) : 1 ≤ l.length := by
  unfold wordB at h; simp at h; cases l <;> simp_all
theorem numB_len {l : List UInt8} (h : numB l = true) : 1 ≤ l.length := by
  unfold numB at h; simp at h; omega

theorem oneL_len {l t : List UInt8} {k : Int} {n : Nat} (h : oneL l = some (k, t, n)) : 1 ≤ n ∧ n ≤ l.length := by
  have h1 := spanL_le isTail l
  cases l with
  | nil => simp [oneL, spanL, wordB, numB] at h
  | cons c r =>
    unfold oneL at h
    split at h
    · rename_i hw; have := wordB_len hw; rw [List.length_take] at this; simp at h; omega
    · split at h
      · rename_i hw; have := numB_len hw; rw [List.length_take] at this; simp at h; omega
      · simp only [] at h
        split at h
        · simp at h; simp; omega
        · split at h
          · cases hs : strL r with
            | none => rw [hs] at h; simp at h
            | some x =>
              rw [hs] at h; simp at h
              have := strL_len _ r x.1 x.2 (Nat.le_refl _) hs
              simp; omega
          · simp at h

set_option maxHeartbeats 4000000 in
theorem rall_any (s : ByteArray) (w : World) (hs : s.size ≤ 20000) :
    Calls Try.prog 16 #[.string s] w fun e w' => ARet w.heap.size (refL (s.size + 1) 1 s.data.toList) e w' ∧ Below w.heap.size w w' := by
  go_enter Try.func16, Try.ntmps16
  go_wp2_with fail
  go_loopw [4, 5, 6] (fun v ln i wr => ∃ acc : List Tok, ∃ line f k : Nat, k ≤ s.size ∧ acc.length ≤ k ∧ line ≤ k + 1 ∧ s.size - k < f ∧ i = .int .i64 k ∧ ln = .int .i64 line ∧
      wr.ownsRow (w.heap.size + 1) 47 3 v acc.length (acc.flatMap tokCells) ∧ Below (w.heap.size + 1) (w.alloc (.cells #[.int .i64 0, .int .i64 0] 27)) wr ∧
      Hid (refL (s.size + 1) 1 s.data.toList = addT acc (refL f line (s.data.toList.drop k)))) (fun _ _ i _ => s.size - (intOf i).toNat)
  case atStart =>
    exact ⟨[], 1, s.size + 1, 0, by omega, by simp, by omega, by omega, rfl, rfl, World.ownsRow_nil _ _ _ _, Below.refl _ _, Lib.hid (by cases h : refL (s.size + 1) 1 s.data.toList <;> simp [addT, Except.map, h])⟩
  case round =>
    obtain ⟨acc, line, f, k, hk, hac, hli, hf, rfl, rfl, hown, hbel, hP⟩ := hrel
    obtain ⟨wo, rfl⟩ : ∃ wo : World, wo = wr := ⟨_, rfl⟩
    have hsz : w.heap.size + 1 ≤ wo.heap.size := by have := hbel.size; simpa using this
    have hf0 : wo.frozen? ⟨w.heap.size, 0, none⟩ = false := by rw [hbel.frozen (by simp)]; simp
    have hf1 : wo.frozen? ⟨w.heap.size, 1, none⟩ = false := by rw [hbel.frozen (by simp)]; simp
    have hc0 : wo.cell? ⟨w.heap.size, 0, none⟩ = some (.int .i64 0) := by rw [hbel.cell (by simp)]; simp
    have hc1 : wo.cell? ⟨w.heap.size, 1, none⟩ = some (.int .i64 0) := by rw [hbel.cell (by simp)]; simp
    have h0B : Below w.heap.size w wo := ((Below.refl w.heap.size w).alloc (Nat.le_refl _) _).trans (hbel.mono (by omega))
    obtain ⟨f', rfl⟩ : ∃ f', f = f' + 1 := ⟨f - 1, by omega⟩
    by_cases hlt : k < s.size
    · have hd := Lib.hid (drop_at s k hlt)
      have HI : Hid ((⟨#[32, 9, 10, 13]⟩ : ByteArray).size ≤ maxLen) := Lib.hid (by show 4 ≤ _; unfold maxLen; omega)
      cases c1 : ((s[k].toNat : Int) == 35)
      · cases c2 : inL s[k] [32, 9, 10, 13]
        · have C2 := Lib.hid c2
          obtain ⟨T, hT⟩ : ∃ T, T = s.extract k s.size := ⟨_, rfl⟩
          have hTd : T.data.toList = s.data.toList.drop k := by rw [hT, ext_from]
          have hTs : T.size = s.size - k := by rw [Lib.size_eq, hTd, List.length_drop, ← Lib.size_eq]
          have HTM : Hid (T.size ≤ 140737488351232) := Lib.hid (by omega)
          have hT0 : 0 < T.size := by omega
          have HT0 := Lib.hid hT0
          have HT := Lib.hid hT
          have HTd := Lib.hid hTd
          have hTs1 : T.size ≤ s.size - k := Nat.le_of_eq hTs
          clear c2 hT hTd hTs
          cases hn : oneL T.data.toList with
          | none =>
            have k1 : Hid (refL (f'+1) line (s.data.toList.drop k) = .error line) := Lib.hid (by
              rw [HTd.out] at hn
              rw [hd.out] at hn ⊢
              unfold refL
              rw [c1, C2.out, hn]; rfl)
            have HN := Lib.hid hn
            clear hn
            go_wp2_with (first
              | (go_at_call 30; refine (in_any _ _ _ HI.out).mono ?_; rintro e w' ⟨rfl, rfl⟩; rw [show (⟨#[32, 9, 10, 13]⟩ : ByteArray).data.toList = [32, 9, 10, 13] from rfl, C2.out])
              | (go_at_call 31; rw [← HT.out]; refine (one_any _ _ HTM.out HT0.out).mono ?_; rw [HN.out]; rintro e w2 ⟨⟨kk, rfl⟩, hbn⟩; have hc02 := cell_below hbn hc0 hsz; have hc12 := cell_below hbn hc1 hsz; have hf02 := free_below hbn hf0 hsz; have hf12 := free_below hbn hf1 hsz))
            refine bodyPost_ret (v := .tuple #[.slice none 0 0, .agg #[.int .i64 1, .int .i64 line]]) (by simp [results, Try.results16, go_sem, hc02, hc12]) rfl ⟨?_, ?_⟩
            · rw [hP.out, k1.out]
              rfl
            · exact Below.setCell (Below.setCell (h0B.trans (hbn.mono (by omega))) (by simp) _) (by simp) _
          | some x =>
            obtain ⟨kk, t, n⟩ := x
            have hnl := oneL_len hn
            rw [← Lib.size_eq] at hnl
            have k1 : Hid (refL (f'+1) line (s.data.toList.drop k) = (refL f' line (s.data.toList.drop (k + n))).map fun x => (kk, t, line) :: x) := Lib.hid (by
              rw [HTd.out] at hn
              rw [← List.drop_drop]
              rw [hd.out] at hn ⊢
              conv => lhs; unfold refL
              rw [c1, C2.out, hn]; rfl)
            have HN := Lib.hid hn
            clear hn
            have hn0 : ((n : Int) == 0) = false := by rw [beq_eq_false_iff_ne]; omega
            go_wp2_with (first
              | (go_at_call 30; refine (in_any _ _ _ HI.out).mono ?_; rintro e w' ⟨rfl, rfl⟩; rw [show (⟨#[32, 9, 10, 13]⟩ : ByteArray).data.toList = [32, 9, 10, 13] from rfl, C2.out])
              | (go_at_call 31; rw [← HT.out]; refine (one_any _ _ HTM.out HT0.out).mono ?_; rw [HN.out]; rintro e w2 ⟨rfl, hbn⟩; have hc02 := cell_below hbn hc0 hsz; have hc12 := cell_below hbn hc1 hsz; have hf02 := free_below hbn hf0 hsz; have hf12 := free_below hbn hf1 hsz; have hown2 := ownsRow_below hown hbn; have hsz2 := Nat.le_trans hsz hbn.size)
              | (at_builtin; go_must (refine append_one er23 rfl rfl hown2 rfl rfl rfl (by simp [Value.oneCell']) (by omega) (by omega) hsz2 ?_); intro v' w1 hown1 hg1 hb1 hne1))
            go_roundw
            case rel =>
              refine ⟨acc ++ [(kk, t, line)], line, f', k + n, by omega, by simp; omega, by omega, by omega, by go_num, rfl, by simpa [tokCells] using hown1, hbel.trans ((hbn.mono hsz).trans hb1), Lib.hid ?_⟩
              rw [hP.out, k1.out, addT_one]
            case measure => simp [intOf]; omega
        · have C2 := Lib.hid c2
          clear c2
          cases c3 : ((s[k].toNat : Int) == 10)
          · have k1 : Hid (refL (f'+1) line (s.data.toList.drop k) = refL f' line (s.data.toList.drop (k+1))) := Lib.hid (by
              rw [hd.out]; conv => lhs; unfold refL
              rw [c1, C2.out, c3]; rfl)
            go_wp2_with (first
              | (go_at_call 30; refine (in_any _ _ _ HI.out).mono ?_; rintro e w' ⟨rfl, rfl⟩; rw [show (⟨#[32, 9, 10, 13]⟩ : ByteArray).data.toList = [32, 9, 10, 13] from rfl, C2.out]))
            go_roundw
            case rel =>
              exact ⟨acc, line, f', k + 1, by omega, by omega, by omega, by omega, by go_num, rfl, hown, hbel, Lib.hid (by rw [hP.out, k1.out])⟩
            case measure => simp [intOf]; omega
          · have k1 : Hid (refL (f'+1) line (s.data.toList.drop k) = refL f' (line + 1) (s.data.toList.drop (k+1))) := Lib.hid (by
              rw [hd.out]; conv => lhs; unfold refL
              rw [c1, C2.out, c3]; rfl)
            go_wp2_with (first
              | (go_at_call 30; refine (in_any _ _ _ HI.out).mono ?_; rintro e w' ⟨rfl, rfl⟩; rw [show (⟨#[32, 9, 10, 13]⟩ : ByteArray).data.toList = [32, 9, 10, 13] from rfl, C2.out]))
            go_roundw
            case rel =>
              exact ⟨acc, line + 1, f', k + 1, by omega, by omega, by omega, by omega, by go_num, by go_num, hown, hbel, Lib.hid (by rw [hP.out, k1.out])⟩
            case measure => simp [intOf]; omega
      · obtain ⟨m, hm⟩ : ∃ m, m = spanL notNl (s.data.toList.drop k) := ⟨_, rfl⟩
        have k1 : Hid (refL (f'+1) line (s.data.toList.drop k) = refL f' line (s.data.toList.drop (k+m))) := Lib.hid (by
          rw [← List.drop_drop, hm]
          rw [hd.out]; conv => lhs; unfold refL
          rw [c1]; rfl)
        have hm1 : 1 ≤ m := by
          have hn : notNl s[k] = true := by simp only [beq_iff_eq] at c1; simp [notNl, c1]
          rw [hm, hd.out]; simp [spanL, List.takeWhile, hn]
        have HM := Lib.hid hm
        clear hm
        go_wp2_with fail
        go_loop [6] (fun i => ∃ j : Nat, k + j ≤ s.size ∧ i = .int .i64 (k + j : Nat) ∧ Hid (∀ q (h : q < (s.data.toList.drop k).length), q < j → notNl (s.data.toList.drop k)[q] = true)) (fun i => s.size - (intOf i).toNat)
        case atStart => exact ⟨0, by omega, by go_num, fun _ _ h => absurd h (by omega)⟩
        case round =>
          obtain ⟨j, hj, rfl, hJ⟩ := hrel
          have hdj : ∀ h : k + j < s.size, (s.data.toList.drop k)[j]'(by rw [List.length_drop, ← Lib.size_eq]; omega) = s[k+j] := fun h => by
            rw [List.getElem_drop]; exact data_at s (k+j) h
          have HDJ := Lib.hid hdj
          have hfin : (∀ h : j < (s.data.toList.drop k).length, notNl (s.data.toList.drop k)[j] = false) → m = j := fun h => by
            rw [HM.out]; exact spanL_at _ _ _ (by rw [List.length_drop, ← Lib.size_eq]; omega) hJ.out h
          have HFIN := Lib.hid hfin
          clear hdj hfin
          by_cases hlt2 : k + j < s.size
          · cases hp : ((s[k+j].toNat : Int) != 10)
            · have hmj : m = j := HFIN.out (fun _ => by rw [HDJ.out hlt2]; exact hp)
              have hmj1 : j ≤ m := Nat.le_of_eq hmj.symm
              have hmj2 : m ≤ j := Nat.le_of_eq hmj
              clear hmj
              go_wp2_with fail
              go_roundw
              case rel =>
                exact ⟨acc, line, f', k + m, by omega, by omega, by omega, by omega, by rw [show k + m = k + j by omega]; go_num, rfl, hown, hbel, Lib.hid (by rw [hP.out, k1.out])⟩
              case measure => simp [intOf]; omega
            · go_wp2_with fail
              go_round
              case rel =>
                refine ⟨j + 1, by omega, by go_num, Lib.hid fun q h hq => ?_⟩
                by_cases hqj : q < j
                · exact hJ.out q h hqj
                · obtain rfl : q = j := by omega
                  rw [HDJ.out hlt2]; exact hp
              case measure => simp [intOf]; omega
          · have hmj : m = j := HFIN.out (fun h => absurd h (by rw [List.length_drop, ← Lib.size_eq]; omega))
            have hmj1 : j ≤ m := Nat.le_of_eq hmj.symm
            have hmj2 : m ≤ j := Nat.le_of_eq hmj
            clear hmj
            go_wp2_with fail
            go_roundw
            case rel =>
              exact ⟨acc, line, f', k + m, by omega, by omega, by omega, by omega, by rw [show k + m = k + j by omega]; go_num, rfl, hown, hbel, Lib.hid (by rw [hP.out, k1.out])⟩
            case measure => simp [intOf]; omega
    · have k1 : Hid (refL (f'+1) line (s.data.toList.drop k) = .ok [(5, [], line)]) := Lib.hid (by rw [drop_end s k hlt]; rfl)
      go_wp2_with (first
        | (at_builtin; go_must (refine append_one er23 rfl rfl hown rfl rfl rfl (by simp [Value.oneCell']) (by omega) (by omega) hsz ?_); intro v' w1 hown1 hg1 hb1 hne1; have hc01 := cell_below hb1 hc0 (by simp); have hc11 := cell_below hb1 hc1 (by simp); have hf01 := free_below hb1 hf0 (by simp); have hf11 := free_below hb1 hf1 (by simp)))
      refine bodyPost_ret (v := .tuple #[v', .agg #[.int .i64 0, .int .i64 0]]) (by simp [results, Try.results16, go_sem, hc01, hc11]) rfl ⟨?_, ?_⟩
      · rw [hP.out, k1.out]
        refine ⟨v', rfl, ?_⟩
        refine Go.Joins.ownsRow_le (base := w.heap.size + 1) (ownsRow_setCell_below (ownsRow_setCell_below ?_ (by simp) _) (by simp) _) (by omega)
        simpa [tokCells] using hown1
      · exact Below.setCell (Below.setCell (h0B.trans (hb1.mono (by omega))) (by simp) _) (by simp) _

end Go.Proofs.Ythdcgplocdehjaa
