import Derived.Test.YthdcgplocdehjaaLxWb
import Derived.Test.YthdcgplocdehjaaLxWd
namespace Go.Proofs.Ythdcgplocdehjaa
open Go.RowKit Go.Proofs.Kit

def escL (l : List UInt8) : List UInt8 := l.flatMap fun c => if ((c.toNat : Int) == 34 || (c.toNat : Int) == 92) then [92, c] else [c]

theorem escL_snoc (l : List UInt8) (c : UInt8) : escL (l ++ [c]) = escL l ++ (if ((c.toNat : Int) == 34 || (c.toNat : Int) == 92) then [92, c] else [c]) := by
  simp [escL]

def quoteL (l : List UInt8) : List UInt8 × Bool := if l.all isPrint then (34 :: escL l ++ [34], true) else ([], false)

theorem take_snoc (s : ByteArray) (k : Nat) (h : k < s.size) : s.data.toList.take (k + 1) = s.data.toList.take k ++ [s[k]] := by
  rw [List.take_succ_eq_append_getElem (by rw [← Lib.size_eq]; exact h)]; rfl

theorem all_false_at (s : ByteArray) (k : Nat) (h : k < s.size) (p : UInt8 → Bool) (hp : p s[k] = false) : s.data.toList.all p = false := by
  have : s.data.toList[k]'(by rw [← Lib.size_eq]; exact h) ∈ s.data.toList := List.getElem_mem _
  rw [Bool.eq_false_iff]
  intro ha
  have := List.all_eq_true.1 ha _ this
  rw [data_at s k h, hp] at this
  simp at this

set_option maxHeartbeats 2000000 in
theorem quote_any (s : ByteArray) (w : World) (hs : s.size ≤ 1000000) :
    Calls Try.prog 25 #[.string s] w fun e w' => e = .returned (.tuple #[.string ⟨(quoteL s.data.toList).1.toArray⟩, .bool (quoteL s.data.toList).2]) ∧ Below w.heap.size w w' := by
  go_enter Try.func25, Try.ntmps25
  go_wp2
  go_loopw [4, 9] (fun v i wr => ∃ k : Nat, ∃ acc : List UInt8, k ≤ s.size ∧ acc.length ≤ 2 * k + 1 ∧ i = .int .i64 k ∧ wr.ownsRow w.heap.size 5 1 v acc.length (acc.map byteV) ∧ Below w.heap.size w wr ∧
      Hid ((s.data.toList.take k).all isPrint = true) ∧ Hid (acc = 34 :: escL (s.data.toList.take k))) (fun _ i _ => s.size - (intOf i).toNat)
  case atStart => exact ⟨0, [34], by omega, by simp, rfl, World.ownsRow_lit _ #[.int .u8 34] 1 (Nat.le_refl _) (by unfold maxLen; omega) rfl, (Below.refl _ _).alloc (Nat.le_refl _) _, Lib.hid (by simp), Lib.hid (by simp [escL])⟩
  case round =>
    obtain ⟨k, acc, hk, hal, rfl, hown, hbel, hP, hA⟩ := hrel
    by_cases hlt : k < s.size
    · have hts := Lib.hid (take_snoc s k hlt)
      go_wp2_with (first
        | (go_at_call 39; refine (printable_any _ _).mono ?_; rintro e w' ⟨rfl, rfl⟩)
        | (at_builtin; refine append_one er32 rfl rfl hown rfl rfl rfl (by simp [Value.oneCell']) (by omega) (by omega) hbel.size ?_; intro v' w1 hown1 hg1 hb1 hne1)
        | (at_builtin; refine append_one er32 rfl rfl hown1 rfl rfl rfl (by simp [Value.oneCell']) (by omega) (by omega) (hbel.trans hb1).size ?_; intro v2 w2 hown2 hg2 hb2 hne2))
      · have h1 : (!isPrint s[k]) = true := by assumption
        go_ret2
        refine ⟨?_, hbel⟩
        rw [show quoteL s.data.toList = ([], false) by unfold quoteL; rw [all_false_at s k hlt isPrint (by simpa using h1)]; rfl]
        rfl
      · have h1 : (!isPrint s[k]) = false := by assumption
        have h2 : (s[k].toNat : Int) = 34 := by assumption
        go_roundw
        case rel =>
          refine ⟨k + 1, acc ++ [92] ++ [s[k]], by omega, by simp; omega, by go_num, by simpa [byteV, h2] using hown2, (hbel.trans hb1).trans hb2, Lib.hid ?_, Lib.hid ?_⟩
          · rw [hts.out, List.all_append, hP.out]; simpa using h1
          · rw [hts.out, escL_snoc, if_pos (by simp [h2]), hA.out]; simp
        case measure => simp [intOf]; omega
      · have h1 : (!isPrint s[k]) = false := by assumption
        rename_i h2
        go_roundw
        case rel =>
          refine ⟨k + 1, acc ++ [92] ++ [s[k]], by omega, by simp; omega, by go_num, by simpa [byteV] using hown2, (hbel.trans hb1).trans hb2, Lib.hid ?_, Lib.hid ?_⟩
          · rw [hts.out, List.all_append, hP.out]; simpa using h1
          · rw [hts.out, escL_snoc, if_pos (by simpa using h2), hA.out]; simp
        case measure => simp [intOf]; omega
      · have h1 : (!isPrint s[k]) = false := by assumption
        rename_i h2
        go_roundw
        case rel =>
          refine ⟨k + 1, acc ++ [s[k]], by omega, by simp; omega, by go_num, by simpa [byteV] using hown1, hbel.trans hb1, Lib.hid ?_, Lib.hid ?_⟩
          · rw [hts.out, List.all_append, hP.out]; simpa using h1
          · rw [hts.out, escL_snoc, if_neg (by simpa using h2), hA.out]; simp
        case measure => simp [intOf]; omega
    · have hfin : Hid (quoteL s.data.toList = (acc ++ [34], true)) := Lib.hid (by
        have h1 := hP.out
        have h2 := hA.out
        rw [List.take_of_length_le (by rw [← Lib.size_eq]; omega)] at h1 h2
        unfold quoteL; rw [h1, if_pos rfl, h2])
      go_wp2_with (first
        | (at_builtin; refine append_one er32 rfl rfl hown rfl rfl rfl (by simp [Value.oneCell']) (by omega) (by omega) hbel.size ?_; intro v' w1 hown1 hg1 hb1 hne1; have hconv := string_of_owned 71 9 Try.underlying71 Try.underlying5 Try.underlying9 (P := Try.prog) (w := w1) (l := acc ++ [34]) (by simpa [byteV] using hown1)))
      go_ret2
      exact ⟨by rw [hfin.out]; rfl, hbel.trans hb1⟩

end Go.Proofs.Ythdcgplocdehjaa
