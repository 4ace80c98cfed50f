import Derived.Test.YtcjgilfbcoadjaaLb
import Derived.Test.YtcjgilfbcoadjaaPn
import Derived.Laws.BitsLemmas
import Derived.Test.YtcjgilfbcoadjaaK2
namespace Go.Proofs.Ytcjgilfbcoadjaa
open Go.RowKit Go.Proofs.Kit

theorem i64_and7 (n : Int) : bits .and .i64 n 7 = n % 8 := by
  have h7 : (BitVec.ofInt 64 7).toNat = 2 ^ 3 - 1 := by decide
  have key : (BitVec.ofInt 64 n &&& BitVec.ofInt 64 7).toNat = (n % ((2 ^ 64 : Nat) : Int)).toNat % 2 ^ 3 := by
    rw [BitVec.toNat_and, BitVec.toNat_ofInt, h7, Nat.and_two_pow_sub_one_eq_mod]
  show IntKind.i64.wrap ((BitVec.ofInt 64 n &&& BitVec.ofInt 64 7).toNat : Nat) = n % 8
  rw [key, IntKind.wrap_i64]
  omega

theorem R_line_le : ∀ (n : Nat) (l : List UInt8) (i : Nat) (A : List Tok), l.length ≤ n → R i l = .ok A → ∀ x ∈ A, x.2.2 ≤ i + l.length := by
  intro n
  induction n with
  | zero =>
    intro l i A hl h x hx
    have : l = [] := List.eq_nil_of_length_eq_zero (by omega)
    subst this
    rw [R_nil] at h
    simp at h
    rw [← h] at hx; simp at hx; rw [hx]; simp
  | succ n ih =>
    intro l i A hl h x hx
    cases l with
    | nil =>
      rw [R_nil] at h
      simp at h
      rw [← h] at hx; simp at hx; rw [hx]; simp
    | cons c r =>
      have hl' : r.length ≤ n := by simp at hl; exact hl
      cases h35 : ((c.toNat : Int) == 35)
      · cases hb : inL c [32, 9, 10, 13]
        · rw [R_tok _ c r h35 hb] at h
          cases ho : oneL (c :: r) with
          | none => rw [ho] at h; simp at h
          | some y =>
            obtain ⟨k, t, m⟩ := y
            rw [ho] at h
            simp only [] at h
            cases hr : R i ((c :: r).drop m) with
            | error e => rw [hr] at h; simp [Except.map] at h
            | ok C =>
              rw [hr] at h; simp only [Except.map, Except.ok.injEq] at h
              have hdl := drop_len_lt (c :: r) m (oneL_len ho).1 (by simp)
              rw [← h, List.mem_cons] at hx
              rcases hx with hx | hx
              · rw [hx]; simp
              · have := ih _ i C (by simp only [List.length_cons] at hdl; omega) hr x hx
                omega
        · rw [R_blank _ c r h35 hb] at h
          have := ih r _ A hl' h x hx
          rw [List.length_cons]
          split at this <;> omega
      · rw [R_comment _ c r h35] at h
        have hdl := drop_len_lt (c :: r) _ (span_comment_pos c r h35) (by simp)
        have := ih _ _ A (by simp only [List.length_cons] at hdl; omega) h x hx
        omega

theorem u8_of_wf (x : Int) (h : (Lit.int .u8 x).wf = true) : ∃ b : UInt8, x = (b.toNat : Int) := by
  have hb : 0 ≤ x ∧ x ≤ 255 := by
    simp [Lit.wf, IntKind.min, IntKind.max, IntKind.signed, IntKind.bits] at h
    omega
  refine ⟨UInt8.ofNat x.toNat, ?_⟩
  rw [UInt8.toNat_ofNat']
  omega

set_option maxHeartbeats 8000000 in
theorem walk_LexPlace (a : ByteArray) (ha : a.size ≤ maxLen) (n : Int) (_hn : (Lit.int .i64 n).wf = true) (bad : Int) (hbad : (Lit.int .u8 bad).wf = true) (w : World) :
    Calls Try.prog 6 #[.string a, .int .i64 n, .int .u8 bad] w fun e w' => e = .returned (.bool true) ∧ Below w.heap.size w w' := by
  obtain ⟨b, rfl⟩ := u8_of_wf bad hbad
  clear hbad
  obtain ⟨m, hm⟩ : ∃ m : Nat, bits .and .i64 n 7 = (m : Int) := ⟨(n % 8).toNat, by rw [i64_and7]; omega⟩
  have hm7 : m ≤ 7 := by have := i64_and7 n; omega
  obtain ⟨S, hS⟩ : ∃ S, S = a.extract 0 (min a.size 100) := ⟨_, rfl⟩
  have hs : S.size ≤ 100 := by rw [hS]; exact short_size a 100
  have HS := Lib.hid hS
  have HSL : Hid (S.size ≤ 20000) := Lib.hid (by omega)
  clear hS
  go_enter Try.func6, Try.ntmps6
  go_wp2_with (first
    | (go_at_call 9; refine (short_any _ 100 _ ha (by omega)).mono ?_; rintro e w1 ⟨rfl, rfl⟩; rw [← HS.out]))
  go_loop [7] (fun i => ∃ k : Nat, k ≤ S.size ∧ i = .int .i64 k ∧ Hid (∀ c ∈ S.data.toList.take k, ((c.toNat : Int) == 35) = false)) (fun i => S.size - (intOf i).toNat)
  case atStart => exact ⟨0, by omega, rfl, Lib.hid (by simp)⟩
  case round =>
    obtain ⟨k, hk, rfl, hP⟩ := hrel
    by_cases hlt : k < S.size
    · have hts := Lib.hid (take_snoc S k hlt)
      cases c1 : ((S[k].toNat : Int) == 35)
      · cases c2 : ((S[k].toNat : Int) == 34)
        · have C1 := Lib.hid c1
          go_wp2_with fail
          go_round
          case rel =>
            refine ⟨k + 1, by omega, by go_num, Lib.hid fun c hc => ?_⟩
            rw [hts.out, List.mem_append] at hc
            rcases hc with hc | hc
            · exact hP.out c hc
            · simp at hc; rw [hc]; exact C1.out
          case measure => simp [intOf]; omega
        · go_wp2_with (go_at_call 12; refine (awake_any _).mono ?_; rintro e w1 ⟨rfl, hb1⟩)
          go_ret
          exact ⟨rfl, hb1⟩
      · go_wp2_with (go_at_call 12; refine (awake_any _).mono ?_; rintro e w1 ⟨rfl, hb1⟩)
        go_ret
        exact ⟨rfl, hb1⟩
    · have hX : Hid (∀ c ∈ S.data.toList, ((c.toNat : Int) == 35) = false) := Lib.hid (by
        have := hP.out
        rw [List.take_of_length_le (by rw [← Lib.size_eq]; omega)] at this; exact this)
      by_cases hb : badByte b
      · have hcases : (((b.toNat : Int) != 65) = false) ∨ (((b.toNat : Int) != 65) = true ∧ ((b.toNat : Int) != 0) = false) ∨
            (((b.toNat : Int) != 65) = true ∧ ((b.toNat : Int) != 0) = true ∧ ((b.toNat : Int) != 95) = false) ∨
            (((b.toNat : Int) != 65) = true ∧ ((b.toNat : Int) != 0) = true ∧ ((b.toNat : Int) != 95) = true ∧ ¬ (b.toNat : Int) < 128) := by
          rcases hb with rfl | rfl | rfl | h
          · left; rfl
          · right; left; exact ⟨rfl, rfl⟩
          · right; right; left; exact ⟨rfl, rfl, rfl⟩
          · right; right; right
            refine ⟨?_, ?_, ?_, ?_⟩
            · rw [bne_iff_ne]; omega
            · rw [bne_iff_ne]; omega
            · rw [bne_iff_ne]; omega
            · omega
        have HB := Lib.hid hb
        clear hb
        have HQ : Hid (lexL (S.size + 1) 1 S.data.toList = R 1 S.data.toList) := Lib.hid (lex_ref _ _ _ _ (Nat.le_refl _) (by rw [Lib.size_eq]; omega))
        cases hr : R 1 S.data.toList with
        | error e =>
          have HR := Lib.hid hr
          clear hr
          rcases hcases with c1 | ⟨c1, c2⟩ | ⟨c1, c2, c3⟩ | ⟨c1, c2, c3, c4⟩
          all_goals
            go_wp2_with (first
              | (go_at_call 10; refine (all_any _ _ HSL.out).mono ?_; rw [HQ.out, HR.out]; rintro e w1 ⟨rfl, hb1⟩)
              | (go_at_call 12; refine (awake_any _).mono ?_; rintro e w2 ⟨rfl, hb2⟩))
            go_ret
            exact ⟨rfl, bel2 hb1 (below_on hb2)⟩
        | ok A =>
          obtain ⟨A', line', hA, hZ⟩ := place_law S.data.toList m b A hX.out HB.out hr
          have hline : line' ≤ 101 := by
            have := R_line_le _ _ _ _ (Nat.le_refl _) hr (5, [], line') (by rw [hA]; simp)
            rw [← Lib.size_eq] at this; simp only [] at this; omega
          have hAl := lex_len _ _ _ _ (HQ.out.trans hr)
          rw [← Lib.size_eq] at hAl
          have hAn : A.length = A'.length + 1 := by rw [hA]; simp
          have HR := Lib.hid hr
          have HA := Lib.hid hA
          have HZ := Lib.hid hZ
          have hA0 : 0 < A.length := by omega
          clear hr hA hZ
          have hAn1 : A.length ≤ A'.length + 1 := Nat.le_of_eq hAn
          have hAn2 : A'.length + 1 ≤ A.length := Nat.le_of_eq hAn.symm
          clear hAn
          have hA0' : ((A.length : Int) == 0) = false := by rw [beq_eq_false_iff_ne]; omega
          have hconv : ∀ w : World, (convert 32 9 (.slice (some ⟨w.heap.size, 0, none⟩) 1 1)).run Try.prog (w.alloc (.cells #[.int .u8 (b.toNat : Int)] 5)) = .ok (.string ⟨#[b]⟩) (w.alloc (.cells #[.int .u8 (b.toNat : Int)] 5)) := fun w =>
            string_of_owned 32 9 Try.underlying32 Try.underlying5 Try.underlying9 (base := w.heap.size) (l := [b]) (World.ownsRow_lit w #[.int .u8 (b.toNat : Int)] 1 (Nat.le_refl _) (by unfold maxLen; omega) rfl)
          have hlast : ∀ (w : World) (g c : Nat), w.ownsRow w.heap.size 38 3 (.slice (some ⟨g, 0, none⟩) A.length c) A.length (A.flatMap tokCells) → True := fun _ _ _ _ => trivial
          clear hlast
          rcases hcases with c1 | ⟨c1, c2⟩ | ⟨c1, c2, c3⟩ | ⟨c1, c2, c3, c4⟩
          all_goals
            go_wp2_with (first
              | (go_at_call 10; refine (all_any _ _ HSL.out).mono ?_; rw [HQ.out, HR.out]; rintro e w1 ⟨⟨v1, rfl, hown1⟩, hb1⟩; obtain ⟨g1, k1, rfl⟩ := Go.Joins.ownsRow_form hown1 hA0; have hk1 := hown1))
            have x2 : w1.cell? ⟨g1, (A.length - 1) * 3 + 2, none⟩ = some (.int .i64 line') := by
              rw [show A.length - 1 = A'.length by omega]
              rw [hown1.cellAt _ (by omega)]
              rw [HA.out, flatMap_at tokCells 3 tokCells_len _ _ _ (by simp) (by omega)]
              simp [tokCells]
            have hcap : A.length ≤ k1 := by
              rcases ownsRow_cases hown1 with ⟨h, _⟩ | ⟨g, cap, h, _, hc, _⟩
              · simp at h
              · simp at h; omega
            clear hk1
            go_loop [10, 11] (fun t i => ∃ j : Nat, ∃ T : ByteArray, j ≤ m ∧ T.size ≤ 100 + j ∧ t = .string T ∧ i = .int .i64 j ∧ Hid (T.data.toList = S.data.toList ++ List.replicate j 10)) (fun _ i => m - (intOf i).toNat)
            case atStart => exact ⟨0, S, by omega, by omega, rfl, rfl, Lib.hid (by simp)⟩
            case round =>
              obtain ⟨j, T, hj, hT, rfl, rfl, hTd⟩ := hrel
              by_cases hjm : j < m
              · go_wp2_with fail
                go_round
                case rel =>
                  refine ⟨j + 1, T ++ ⟨#[10]⟩, by omega, ?_, rfl, by go_num, Lib.hid ?_⟩
                  · rw [Lib.size_eq, data_app, List.length_append, ← Lib.size_eq]; simp; omega
                  · rw [data_app, hTd.out, List.replicate_succ', ← List.append_assoc]
                case measure => simp [intOf]; omega
              · obtain rfl : j = m := by omega
                have hz : T.size + 4 ≤ 20000 := by omega
                have HZD : Hid ((T ++ ⟨#[32]⟩ ++ ⟨#[b]⟩ ++ ⟨#[32, 120]⟩).data.toList = S.data.toList ++ (List.replicate j 10 ++ [32, b, 32, 120])) := Lib.hid (by
                  rw [data_app, data_app, data_app, hTd.out]; simp)
                have HZS : Hid ((T ++ ⟨#[32]⟩ ++ ⟨#[b]⟩ ++ ⟨#[32, 120]⟩).size ≤ 20000) := Lib.hid (by
                  rw [Lib.size_eq, data_app, data_app, data_app, List.length_append, List.length_append, List.length_append, ← Lib.size_eq]; simp; omega)
                have HZR : Hid (lexL ((T ++ ⟨#[32]⟩ ++ ⟨#[b]⟩ ++ ⟨#[32, 120]⟩).size + 1) 1 (T ++ ⟨#[32]⟩ ++ ⟨#[b]⟩ ++ ⟨#[32, 120]⟩).data.toList = .error (line' + j)) := Lib.hid (by
                  rw [lex_ref _ _ _ _ (Nat.le_refl _) (by rw [Lib.size_eq]; omega), HZD.out, HZ.out])
                have hcv : (convert 32 9 (.slice (some ⟨w1.heap.size + 1, 0, none⟩) 1 1)).run Try.prog ((w1.alloc (.cells #[.int .i64 0, .int .i64 0] 26)).alloc (.cells #[.int .u8 (b.toNat : Int)] 5)) = .ok (.string ⟨#[b]⟩) ((w1.alloc (.cells #[.int .i64 0, .int .i64 0] 26)).alloc (.cells #[.int .u8 (b.toNat : Int)] 5)) := by
                  have h : (w1.alloc (.cells #[.int .i64 0, .int .i64 0] 26)).heap.size = w1.heap.size + 1 := by simp
                  have := hconv (w1.alloc (.cells #[.int .i64 0, .int .i64 0] 26))
                  rw [h] at this; exact this
                clear hconv
                go_wp2_with (first
                  | (go_at_call 10; refine (all_any _ _ HZS.out).mono ?_; rw [HZR.out]; rintro e w2 ⟨rfl, hb2⟩; have y2 := cell_below hb2 (cell_alloc_old (cell_alloc_old x2)) (World.block_lt_of_cell? _ ⟨_, _, none⟩ (cell_alloc_old (cell_alloc_old x2)))))
                have z0 : ∀ x : Later (w2.alloc (.cells #[.int .i64 1, .int .i64 ((line' : Int) + (j : Int))] 26)), x.val.cell? ⟨w2.heap.size, 0, none⟩ = some (.int .i64 1) := Later.cell (cell_alloc_new _ _ _ _ _)
                have z1 : ∀ x : Later (w2.alloc (.cells #[.int .i64 1, .int .i64 ((line' : Int) + (j : Int))] 26)), x.val.cell? ⟨w2.heap.size, 1, none⟩ = some (.int .i64 ((line' : Int) + (j : Int))) := Later.cell (cell_alloc_new _ _ _ _ _)
                have z2 : ∀ x : Later (w2.alloc (.cells #[.int .i64 1, .int .i64 ((line' : Int) + (j : Int))] 26)), x.val.cell? ⟨g1, (A.length - 1) * 3 + 2, none⟩ = some (.int .i64 line') := Later.cell (cell_alloc_old y2)
                refine wp_region_later (by kernel_rfl) (by kernel_rfl) ?_
                repeat (go_big_quiet_step ((go_at_call 12; exact Later.call (awake_any _))))
                refine wpQuiet_nil ?_
                rintro _ ⟨x, rfl⟩
                go_wp2_with fail
                go_ret
                refine ⟨rfl, bel2 hb1 (Below.trans (((Below.refl _ _).alloc (Nat.le_refl _) _).alloc (by simp) _) ((hb2.mono (by simp; omega)).trans ?_))⟩
                exact (below_on x.h).mono (by have := hb2.size; simp at this; omega)
      · have hb65 : ((b.toNat : Int) != 65) = true := by rw [bne_iff_ne]; intro h; exact hb (.inl (UInt8.toNat_inj.1 (by simp; omega)))
        have hb0 : ((b.toNat : Int) != 0) = true := by rw [bne_iff_ne]; intro h; exact hb (.inr (.inl (UInt8.toNat_inj.1 (by simp; omega))))
        have hb95 : ((b.toNat : Int) != 95) = true := by rw [bne_iff_ne]; intro h; exact hb (.inr (.inr (.inl (UInt8.toNat_inj.1 (by simp; omega)))))
        have hb128 : (b.toNat : Int) < 128 := by have : ¬ 128 ≤ b.toNat := fun h => hb (.inr (.inr (.inr h))); omega
        clear hb
        go_wp2_with (go_at_call 12; refine (awake_any _).mono ?_; rintro e w1 ⟨rfl, hb1⟩)
        go_ret
        exact ⟨rfl, hb1⟩

end Go.Proofs.Ytcjgilfbcoadjaa
