import Derived.Test.YtcjgilfbcoadjaaLb
namespace Go.Proofs.Ytcjgilfbcoadjaa
open Go.RowKit Go.Proofs.Kit

set_option maxHeartbeats 1000000 in
theorem all_long (s : ByteArray) (w : World) (h1 : 20000 < s.size) (hs : s.size ≤ maxLen) :
    Calls Try.prog 10 #[.string s] w fun e w' => e = .returned (.tuple #[.slice none 0 0, .agg #[.int .i64 7, .int .i64 0]]) ∧ Below w.heap.size w w' := by
  unfold maxLen at hs
  go_enter Try.func10, Try.ntmps10
  go_wp2_with fail
  refine bodyPost_ret (v := .tuple #[.slice none 0 0, .agg #[.int .i64 7, .int .i64 0]]) (by simp [results, Try.results10, go_sem]) rfl ⟨rfl, ?_⟩
  exact (Below.refl _ _).alloc (Nat.le_refl _) _

theorem skip_blanks (n : Nat) : skipF false (List.replicate n 32) = n := by
  induction n with
  | zero => rfl
  | succ n ih => rw [List.replicate_succ]; unfold skipF; rw [if_pos (by rfl), ih]; omega

theorem count_blanks (n : Nat) : (List.replicate n (32 : UInt8)).count 10 = 0 := by
  rw [List.count_replicate]; rfl

theorem lex_blanks (n : Nat) : lexL (n + 1) 1 (List.replicate n 32) = .ok [(5, [], 1)] := by
  unfold lexL
  rw [skip_blanks, if_pos (by simp), List.take_of_length_le (by simp), count_blanks]

theorem tmod20 (n : Int) : -19 ≤ n.tmod 20 ∧ n.tmod 20 ≤ 19 := by
  have h1 := Int.tmod_lt_of_pos n (show (0:Int) < 20 by omega)
  have h2 := Int.lt_tmod_of_pos n (show (0:Int) < 20 by omega)
  omega

theorem blanks_map (N : Nat) : List.map byteV (List.replicate N 32) = List.replicate N (.int .u8 32) := by simp [byteV]

set_option maxHeartbeats 4000000 in
theorem walk_LexLong (n : Int) (_hn : (Lit.int .i64 n).wf = true) (w : World) :
    Calls Try.prog 7 #[.int .i64 n] w fun e w' => e = .returned (.bool true) ∧ Below w.heap.size w w' := by
  have ht := tmod20 n
  obtain ⟨N, hN⟩ : ∃ N : Nat, 19990 + n.tmod 20 % 20 = (N : Int) := ⟨(19990 + n.tmod 20 % 20).toNat, by omega⟩
  have hNb : 19990 ≤ N ∧ N ≤ 20009 := by omega
  obtain ⟨hNb1, hNb2⟩ := hNb
  have h20 : 0 ≤ n.tmod 20 + 20 := by omega
  obtain ⟨i0, hi, hz0, hz1, hz2⟩ := info_parts er32.hi
  obtain ⟨B, hB⟩ : ∃ B : ByteArray, B = ⟨(List.replicate N 32).toArray⟩ := ⟨_, rfl⟩
  have hBd : B.data.toList = List.replicate N 32 := by rw [hB]
  have hBs : B.size = N := by rw [Lib.size_eq, hBd, List.length_replicate]
  have HB := Lib.hid hB
  have HBd := Lib.hid hBd
  have HBs := Lib.hid hBs
  clear hB hBd hBs
  go_enter Try.func7, Try.ntmps7
  go_wp2_with (first
    | (at_make; refine wpList_make_full _ rfl _ _ 32 rfl w.heap.size 5 i0 (.int .u8 0) 1 Try.underlying32 hi hz0 hz1 .i64 .i64 N N N rfl rfl rfl rfl (by rw [hz2]; omega) (by unfold maxLen; omega) (Nat.le_refl _) ?_; intro w1 hown1 hg1))
  have hb1 : Below w.heap.size w w1 := (Below.refl _ _).grown hg1 (Nat.le_refl _) (fun k hk => by simp at hk)
  have hown0 : w1.ownsRow w.heap.size 5 1 (.slice (some ⟨w.heap.size, 0, none⟩) N N) N (List.replicate N (.int .u8 0)) := by
    have := hown1
    rw [show (Value.int IntKind.u8 0).cells = #[.int .u8 0] from rfl, toList_madeCells_one, Nat.mul_one] at this
    exact this
  clear hown1
  go_wp2_with fail
  go_loopw [16] (fun i wr => ∃ k : Nat, k ≤ N ∧ i = .int .i64 k ∧ Below w.heap.size w wr ∧ wr.ownsRow w.heap.size 5 1 (.slice (some ⟨w.heap.size, 0, none⟩) N N) N (List.replicate k (.int .u8 32) ++ List.replicate (N - k) (.int .u8 0))) (fun i _ => N - (intOf i).toNat)
  case atStart => exact ⟨0, by omega, rfl, hb1, by simpa using hown0⟩
  case round =>
    obtain ⟨k, hk, rfl, hbel, hown⟩ := hrel
    by_cases hlt : k < N
    · have hcell : wr.cell? ⟨w.heap.size, k, none⟩ = some (.int .u8 0) := by
        rw [hown.cellAt k (by omega), List.getElem?_append_right (by simp), List.length_replicate, Nat.sub_self, List.getElem?_replicate, if_pos (by omega)]
      have hfr := hown.frozenAt k
      have hst := hown.stored k (.int .u8 32)
      have HST := Lib.hid hst
      clear hst
      go_wp2_with fail
      go_roundw
      case rel =>
        refine ⟨k + 1, by omega, by go_num, hbel.grown HST.out.2 hbel.size (fun k hk => by simp at hk; omega), ?_⟩
        have := HST.out.1
        rw [List.set_append_right _ _ (by simp)] at this
        simp only [List.length_replicate, Nat.sub_self] at this
        obtain ⟨m, hm⟩ : ∃ m, N - k = m + 1 := ⟨N - k - 1, by omega⟩
        rw [hm, List.replicate_succ, List.set_cons_zero] at this
        rw [show N - (k + 1) = m by omega, List.replicate_succ']
        simpa using this
      case measure => simp [intOf]; omega
    · obtain rfl : k = N := by omega
      have hown2 : wr.ownsRow w.heap.size 5 1 (.slice (some ⟨w.heap.size, 0, none⟩) k k) k ((List.replicate k 32).map byteV) := by
        rw [blanks_map]; simpa using hown
      have hconv := string_of_owned 32 9 Try.underlying32 Try.underlying5 Try.underlying9 (P := Try.prog) hown2
      rw [← HB.out] at hconv
      by_cases hlong : 20000 < k
      · go_wp2_with (first
          | (go_at_call 10; refine (all_long _ _ (by rw [HBs.out]; omega) (by rw [HBs.out]; unfold maxLen; omega)).mono ?_; rintro e w2 ⟨rfl, hb2⟩)
          | (go_at_call 12; refine (awake_any _).mono ?_; rintro e w3 ⟨rfl, hb3⟩; have f0 := cell_new hb3 (off := 0) rfl; have f1 := cell_new hb3 (off := 1) rfl))
        go_ret
        exact ⟨rfl, bel3 hbel hb2 (below_on hb3) (Below.refl _ _)⟩
      · go_wp2_with (first
          | (go_at_call 10; refine (all_any _ _ (by rw [HBs.out]; omega)).mono ?_; rw [HBs.out, HBd.out, lex_blanks]; rintro e w2 ⟨⟨v2, rfl, hown3⟩, hb2⟩; obtain ⟨g2, c2, rfl⟩ := Go.Joins.ownsRow_form hown3 (by simp))
          | (go_at_call 12; refine (awake_any _).mono ?_; rintro e w3 ⟨rfl, hb3⟩; have f0 := cell_new hb3 (off := 0) rfl; have f1 := cell_new hb3 (off := 1) rfl))
        go_ret
        exact ⟨rfl, bel3 hbel hb2 (below_on hb3) (Below.refl _ _)⟩

end Go.Proofs.Ytcjgilfbcoadjaa
