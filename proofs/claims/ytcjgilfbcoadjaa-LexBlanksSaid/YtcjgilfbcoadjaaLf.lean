import Derived.Test.YtcjgilfbcoadjaaLe
namespace Go.Proofs.Ytcjgilfbcoadjaa
open Go.RowKit Go.Proofs.Kit

/-- A slice of integers that came in: nil, or a row of cells. -/
def IsRow (k : IntKind) (w : World) (a : Option Addr) (len cap : Nat) (zs : List Int) : Prop :=
  (a = none ∧ len = 0 ∧ cap = 0 ∧ zs = []) ∨
  ∃ x, a = some x ∧ len ≤ cap ∧ cap ≤ maxLen ∧ zs.length = cap ∧ (∀ i, i < zs.length → w.cell? (x.add i) = some (.int k (zs.getD i 0))) ∧ ∀ n ∈ zs, (Lit.int k n).wf = true

theorem u8_and3 (z : Int) (h0 : 0 ≤ z) (h1 : z ≤ 255) : bits .and .u8 z 3 = 0 ∨ bits .and .u8 z 3 = 1 ∨ bits .and .u8 z 3 = 2 ∨ bits .and .u8 z 3 = 3 := by
  rw [u8_and z 3 h0 (by omega) (by omega) (by omega)]
  have : z.toNat &&& 3 = z.toNat % 4 := Nat.and_two_pow_sub_one_eq_mod z.toNat 2
  rw [show Int.toNat 3 = 3 from rfl, this]
  omega

theorem lex_ne (f line : Nat) (l : List UInt8) (A : List Tok) (h : lexL f line l = .ok A) : 0 < A.length := by
  cases f with
  | zero => simp [lexL] at h
  | succ f =>
    unfold lexL at h
    split at h
    · simp at h; rw [← h]; simp
    · cases ho : nextL (l.drop (skipF false l)) with
      | none => rw [ho] at h; simp at h
      | some x =>
        rw [ho] at h
        simp only [] at h
        cases hr : lexL f (line + List.count 10 (List.take (skipF false l) l)) (List.drop x.2.2 (List.drop (skipF false l) l)) with
        | error e => rw [hr] at h; simp [Except.map] at h
        | ok B => rw [hr] at h; simp [Except.map] at h; rw [← h]; simp

theorem tok_one (A : List Tok) : ∀ u ∈ A.flatMap tokCells, u.oneCell' = true := by
  intro u hu
  obtain ⟨x, _, hx⟩ := List.mem_flatMap.1 hu
  simp [tokCells] at hx
  rcases hx with rfl | rfl | rfl <;> rfl

theorem tok_len (A : List Tok) : (A.flatMap tokCells).length = A.length * 3 := by
  induction A with
  | nil => rfl
  | cons a A ih => rw [List.flatMap_cons, List.length_append, tokCells_len, ih, List.length_cons]; omega

/-- The blanks of the gap. -/
theorem gap_step (G : ByteArray) (c : UInt8) (hG : ∀ x ∈ G.data.toList, isBlank x = true) (hc : isBlank c = true) : ∀ x ∈ (G ++ ⟨#[c]⟩).data.toList, isBlank x = true := by
  intro x hx
  rw [data_app, List.mem_append] at hx
  rcases hx with hx | hx
  · exact hG x hx
  · simp at hx; rw [hx]; exact hc

set_option maxHeartbeats 8000000 in
theorem walk_LexBlanks (A0 B0 N0 : ByteArray) (hA0 : A0.size ≤ maxLen) (hB0 : B0.size ≤ maxLen) (hN0 : N0.size ≤ maxLen) (p : Option Addr) (len cap : Nat) (zs : List Int) (w : World) (hrow : IsRow .u8 w p len cap zs) :
    Calls Try.prog 5 #[.agg #[.string A0, .string B0, .string N0, .slice p len cap]] w fun e w' => e = .returned (.bool true) ∧ Below w.heap.size w w' := by
  obtain ⟨S, hS⟩ : ∃ S, S = A0.extract 0 (min A0.size 100) := ⟨_, rfl⟩
  have hs : S.size ≤ 100 := by rw [hS]; exact short_size A0 100
  obtain ⟨T, hT⟩ : ∃ T, T = B0.extract 0 (min B0.size 100) := ⟨_, rfl⟩
  have ht : T.size ≤ 100 := by rw [hT]; exact short_size B0 100
  obtain ⟨N, hN⟩ : ∃ N, N = N0.extract 0 (min N0.size 20) := ⟨_, rfl⟩
  have hn : N.size ≤ 20 := by rw [hN]; exact short_size N0 20
  have cS : ∀ w : World, Calls Try.prog 9 #[.string A0, .int .i64 100] w fun e w' => e = .returned (.string S) ∧ w = w' := fun w => by rw [hS]; exact short_any A0 100 w hA0 (by omega)
  have cT : ∀ w : World, Calls Try.prog 9 #[.string B0, .int .i64 100] w fun e w' => e = .returned (.string T) ∧ w = w' := fun w => by rw [hT]; exact short_any B0 100 w hB0 (by omega)
  have cN : ∀ w : World, Calls Try.prog 9 #[.string N0, .int .i64 20] w fun e w' => e = .returned (.string N) ∧ w = w' := fun w => by rw [hN]; exact short_any N0 20 w hN0 (by omega)
  have CS := Lib.hid cS
  have CT := Lib.hid cT
  have CN := Lib.hid cN
  clear cS cT cN hS hT hN
  have a0 : ∀ x : Later (w.alloc (.cells #[.string A0, .string B0, .string N0, .slice p len cap] 34)), x.val.cell? ⟨w.heap.size, 0, none⟩ = some (.string A0) := Later.cell (cell_alloc_new _ _ _ _ _)
  have a1 : ∀ x : Later (w.alloc (.cells #[.string A0, .string B0, .string N0, .slice p len cap] 34)), x.val.cell? ⟨w.heap.size, 1, none⟩ = some (.string B0) := Later.cell (cell_alloc_new _ _ _ _ _)
  have a2 : ∀ x : Later (w.alloc (.cells #[.string A0, .string B0, .string N0, .slice p len cap] 34)), x.val.cell? ⟨w.heap.size, 2, none⟩ = some (.string N0) := Later.cell (cell_alloc_new _ _ _ _ _)
  have a3 : ∀ x : Later (w.alloc (.cells #[.string A0, .string B0, .string N0, .slice p len cap] 34)), x.val.cell? ⟨w.heap.size, 3, none⟩ = some (.slice p len cap) := Later.cell (cell_alloc_new _ _ _ _ _)
  go_enter Try.func5, Try.ntmps5
  go_wp2_with fail
  refine wp_region_later (by kernel_rfl) (by kernel_rfl) ?_
  repeat (go_big_quiet_step ((go_at_call 9; first | (with_reducible exact Later.call_same (CS.out _)) | (with_reducible exact Later.call_same (CT.out _)) | (with_reducible exact Later.call_same (CN.out _)))))
  refine wpQuiet_nil ?_
  rintro _ ⟨x, rfl⟩
  have hbx : Below w.heap.size w x.val := below_on x.h
  obtain ⟨w0, hw0⟩ : ∃ w0, w0 = x.val := ⟨_, rfl⟩
  rw [← hw0] at hbx ⊢
  clear hw0 a0 a1 a2 a3 x
  have hrow0 : 0 < len → ∃ b off, p = some ⟨b, off, none⟩ ∧ len ≤ cap ∧ ∀ i, i < len → w0.cell? ⟨b, off + i, none⟩ = some (.int .u8 (zs.getD i 0)) ∧ 0 ≤ zs.getD i 0 ∧ zs.getD i 0 ≤ 255 := by
    intro hl
    rcases hrow with ⟨_, h, _, _⟩ | ⟨x, hx, h1, _, h3, h4, h5⟩
    · omega
    · obtain ⟨b, off, spot⟩ := x
      have hc := h4 0 (by omega)
      have hspot : spot = none := by simpa [Addr.add] using World.cell?_spot hc
      subst hspot
      refine ⟨b, off, hx, h1, fun i hi => ⟨?_, ?_⟩⟩
      · have := h4 i (by omega)
        rw [Addr.add_lit] at this
        exact cell_keep hbx this
      · have hm : zs.getD i 0 ∈ zs := by rw [List.getD_eq_getElem?_getD, List.getElem?_eq_getElem (by omega)]; simp
        have := h5 _ hm
        simp [Lit.wf, IntKind.min, IntKind.max, IntKind.signed, IntKind.bits] at this
        simp only [List.getD_eq_getElem?_getD]
        omega
  clear hrow
  have HROW := Lib.hid hrow0
  clear hrow0
  go_wp2_with fail
  go_loopw [7, 8] (fun g i wr => ∃ k : Nat, ∃ G : ByteArray, k ≤ len ∧ k ≤ 10 ∧ G.size ≤ 1 + k ∧ g = .string G ∧ i = .int .i64 k ∧ Below w0.heap.size w0 wr ∧ Hid (∀ x ∈ G.data.toList, isBlank x = true)) (fun _ i _ => 10 - (intOf i).toNat)
  case atStart => exact ⟨0, ⟨#[32]⟩, by omega, by omega, by show 1 ≤ 1; omega, rfl, rfl, Below.refl _ _, Lib.hid (by intro x hx; simp at hx; rw [hx]; decide)⟩
  case round =>
    obtain ⟨k, G, hk, hk10, hG, rfl, rfl, hbel, hGB⟩ := hrel
    obtain ⟨wo, rfl⟩ : ∃ wo : World, wo = wr := ⟨_, rfl⟩
    by_cases hlt : k < len ∧ k < 10
    · obtain ⟨hlt1, hlt2⟩ := hlt
      obtain ⟨b, off, rfl, hcap, hcells⟩ := HROW.out (by omega)
      obtain ⟨hck, hz0, hz1⟩ := hcells k hlt1
      have hck2 := cell_keep hbel hck
      have hblt : b < wo.heap.size := World.block_lt_of_cell? _ _ hck2
      clear hcells hck
      obtain ⟨z, hz⟩ : ∃ z, z = zs.getD k 0 := ⟨_, rfl⟩
      rw [← hz] at hck2 hz0 hz1
      have h4 := u8_and3 z hz0 hz1
      clear hz
      rcases h4 with h4 | h4 | h4 | h4
      · go_wp2_with fail
        go_roundw
        case rel =>
          refine ⟨k + 1, G ++ ⟨#[32]⟩, by omega, by omega, ?_, rfl, by go_num, hbel.alloc hbel.size _, Lib.hid (gap_step G 32 hGB.out (by decide))⟩
          rw [Lib.size_eq, data_app, List.length_append, ← Lib.size_eq]; simp; omega
        case measure => simp [intOf]; omega
      · go_wp2_with fail
        go_roundw
        case rel =>
          refine ⟨k + 1, G ++ ⟨#[9]⟩, by omega, by omega, ?_, rfl, by go_num, hbel.alloc hbel.size _, Lib.hid (gap_step G 9 hGB.out (by decide))⟩
          rw [Lib.size_eq, data_app, List.length_append, ← Lib.size_eq]; simp; omega
        case measure => simp [intOf]; omega
      · go_wp2_with fail
        go_roundw
        case rel =>
          refine ⟨k + 1, G ++ ⟨#[10]⟩, by omega, by omega, ?_, rfl, by go_num, hbel.alloc hbel.size _, Lib.hid (gap_step G 10 hGB.out (by decide))⟩
          rw [Lib.size_eq, data_app, List.length_append, ← Lib.size_eq]; simp; omega
        case measure => simp [intOf]; omega
      · go_wp2_with fail
        go_roundw
        case rel =>
          refine ⟨k + 1, G ++ ⟨#[13]⟩, by omega, by omega, ?_, rfl, by go_num, hbel.alloc hbel.size _, Lib.hid (gap_step G 13 hGB.out (by decide))⟩
          rw [Lib.size_eq, data_app, List.length_append, ← Lib.size_eq]; simp; omega
        case measure => simp [intOf]; omega
    · have hend : ¬ k < len ∨ (k < len ∧ ¬ k < 10) := by omega
      have hGs : G.size ≤ 11 := by omega
      clear hlt hk hG HROW
      have hb0 : Below w.heap.size w wo := bel2 hbx hbel
      clear hbel hbx
      obtain ⟨X, hX⟩ : ∃ X : ByteArray, S ++ ⟨#[10]⟩ = X := ⟨_, rfl⟩
      have hXd : X.data.toList = S.data.toList ++ [10] := by rw [← hX, data_app]
      have hXs : X.size ≤ 101 := by rw [Lib.size_eq, hXd, List.length_append, ← Lib.size_eq]; simp; omega
      obtain ⟨Z, hZ⟩ : ∃ Z : ByteArray, X ++ G ++ ⟨#[35]⟩ ++ N ++ ⟨#[10]⟩ ++ G ++ T = Z := ⟨_, rfl⟩
      have hZd : Z.data.toList = (S.data.toList ++ [10]) ++ (G.data.toList ++ (35 :: N.data.toList ++ 10 :: (G.data.toList ++ T.data.toList))) := by
        rw [← hZ, data_app, data_app, data_app, data_app, data_app, data_app, hXd]; simp
      have hZs : Z.size ≤ 20000 := by
        rw [Lib.size_eq, hZd]; simp; omega
      have HX := Lib.hid hX
      have HZ := Lib.hid hZ
      have HXS : Hid (X.size ≤ 20000) := Lib.hid (by omega)
      have HTS : Hid (T.size ≤ 20000) := Lib.hid (by omega)
      have HZS := Lib.hid hZs
      have HQ1 : Hid (lexL (X.size + 1) 1 X.data.toList = R 1 (S.data.toList ++ [10])) := Lib.hid (by rw [← hXd]; exact lex_ref _ _ _ _ (Nat.le_refl _) (by rw [Lib.size_eq]; omega))
      have HQ2 : Hid (lexL (T.size + 1) 1 T.data.toList = R 1 T.data.toList) := Lib.hid (lex_ref _ _ _ _ (Nat.le_refl _) (by rw [Lib.size_eq]; omega))
      have HQ3 : Hid (lexL (Z.size + 1) 1 Z.data.toList = R 1 Z.data.toList) := Lib.hid (lex_ref _ _ _ _ (Nat.le_refl _) (by rw [Lib.size_eq]; omega))
      have HZD := Lib.hid hZd
      clear hX hXd hZ hZd hZs
      rcases hend with hend | ⟨hend1, hend2⟩
      all_goals
        go_wp2_with fail
        go_loop [9] (fun i => ∃ j : Nat, j ≤ N.size ∧ i = .int .i64 j ∧ Hid (∀ c ∈ N.data.toList.take j, notNl c = true)) (fun i => N.size - (intOf i).toNat)
        case atStart => exact ⟨0, by omega, rfl, Lib.hid (by simp)⟩
        case round =>
          obtain ⟨j, hj, rfl, hP⟩ := hrel
          by_cases hlt : j < N.size
          · have hts := Lib.hid (take_snoc N j hlt)
            cases c1 : ((N[j].toNat : Int) == 10)
            · have C1 : Hid (notNl N[j] = true) := Lib.hid (by unfold notNl; simp [bne, c1])
              go_wp2_with fail
              go_round
              case rel =>
                refine ⟨j + 1, by omega, by go_num, Lib.hid fun c hc => ?_⟩
                rw [hts.out, List.mem_append] at hc
                rcases hc with hc | hc
                · exact hP.out c hc
                · simp at hc; rw [hc]; exact C1.out
              case measure => simp [intOf]; omega
            · go_wp2_with (go_at_call 12; refine (awake_any _).mono ?_; rintro e w1 ⟨rfl, hb1⟩)
              go_ret
              exact ⟨rfl, bel2 hb0 hb1⟩
          · have hNl : Hid (∀ c ∈ N.data.toList, notNl c = true) := Lib.hid (by
              have := hP.out
              rw [List.take_of_length_le (by rw [← Lib.size_eq]; omega)] at this; exact this)
            clear hP
            cases hA : R 1 (S.data.toList ++ [10]) with
            | error e1 =>
              have HA := Lib.hid hA
              clear hA
              cases hB : R 1 T.data.toList with
              | error e2 =>
                have HB := Lib.hid hB
                clear hB
                go_wp2_with (first
                  | (go_at_call 10; rw [HX.out]; (with_reducible refine (all_any _ _ HXS.out).mono ?_); rw [HQ1.out, HA.out]; rintro e w1 ⟨rfl, hb1⟩)
                  | (go_at_call 10; (with_reducible refine (all_any _ _ HTS.out).mono ?_); rw [HQ2.out, HB.out]; rintro e w2 ⟨rfl, hb2⟩; have f0 := cell_new hb2 (off := 0) rfl; have f1 := cell_new hb2 (off := 1) rfl; have hlt12 : w1.heap.size < w2.heap.size := World.block_lt_of_cell? _ _ f0)
                  | (go_at_call 12; refine (awake_any _).mono ?_; rintro e w3 ⟨rfl, hb3⟩))
                go_ret
                exact ⟨rfl, bel3 (bel2 hb0 hb1) (below_on hb2) (below_on hb3) (Below.refl _ _)⟩
              | ok B =>
                have HB := Lib.hid hB
                clear hB
                go_wp2_with (first
                  | (go_at_call 10; rw [HX.out]; (with_reducible refine (all_any _ _ HXS.out).mono ?_); rw [HQ1.out, HA.out]; rintro e w1 ⟨rfl, hb1⟩)
                  | (go_at_call 10; (with_reducible refine (all_any _ _ HTS.out).mono ?_); rw [HQ2.out, HB.out]; rintro e w2 ⟨⟨v2, rfl, hown2⟩, hb2⟩; have f0 := cell_new hb2 (off := 0) rfl; have f1 := cell_new hb2 (off := 1) rfl; have hlt12 : w1.heap.size < w2.heap.size := World.block_lt_of_cell? _ _ f0)
                  | (go_at_call 12; refine (awake_any _).mono ?_; rintro e w3 ⟨rfl, hb3⟩))
                go_ret
                exact ⟨rfl, bel3 (bel2 hb0 hb1) (below_on hb2) (below_on hb3) (Below.refl _ _)⟩
            | ok A =>
              have hAl := lex_len _ _ _ _ (HQ1.out.trans hA)
              rw [← Lib.size_eq] at hAl
              cases hB : R 1 T.data.toList with
              | error e2 =>
                have HB := Lib.hid hB
                have HA := Lib.hid hA
                clear hB hA
                go_wp2_with (first
                  | (go_at_call 10; rw [HX.out]; (with_reducible refine (all_any _ _ HXS.out).mono ?_); rw [HQ1.out, HA.out]; rintro e w1 ⟨⟨v1, rfl, hown1⟩, hb1⟩)
                  | (go_at_call 10; (with_reducible refine (all_any _ _ HTS.out).mono ?_); rw [HQ2.out, HB.out]; rintro e w2 ⟨rfl, hb2⟩; have f0 := cell_new hb2 (off := 0) rfl; have f1 := cell_new hb2 (off := 1) rfl; have hlt12 : w1.heap.size < w2.heap.size := World.block_lt_of_cell? _ _ f0)
                  | (go_at_call 12; refine (awake_any _).mono ?_; rintro e w3 ⟨rfl, hb3⟩))
                go_ret
                exact ⟨rfl, bel3 (bel2 hb0 hb1) (below_on hb2) (below_on hb3) (Below.refl _ _)⟩
              | ok B =>
                have hBl := lex_len _ _ _ _ (HQ2.out.trans hB)
                rw [← Lib.size_eq] at hBl
                obtain ⟨A', line', C, hA2, hR, hE, hCl⟩ := blanks_law S.data.toList T.data.toList N.data.toList G.data.toList A B hA hB hGB.out hNl.out
                rw [← HZD.out] at hR
                have hAn : A.length = A'.length + 1 := by rw [hA2]; simp
                have hA0 : 0 < A.length := by omega
                have hA0' : ((A.length : Int) == 0) = false := by rw [beq_eq_false_iff_ne]; omega
                have hB0' : 0 < B.length := lex_ne _ _ _ _ (HQ2.out.trans hB)
                have hcnt1 : A.length ≤ A'.length + 1 := Nat.le_of_eq hAn
                have hcnt2 : A'.length + 1 ≤ A.length := Nat.le_of_eq hAn.symm
                have hcnt3 : C.length ≤ B.length := Nat.le_of_eq hCl
                have HA := Lib.hid hA
                have HB := Lib.hid hB
                have HR := Lib.hid hR
                have HE := Lib.hid hE
                have hpre : ∀ j u, (A'.flatMap tokCells)[j]? = some u → (A.flatMap tokCells)[j]? = some u := fun j u h => by
                  rw [hA2, List.flatMap_append, List.getElem?_append_left (List.getElem?_eq_some_iff.1 h).1]; exact h
                have HPRE := Lib.hid hpre
                have HAl : Hid ((A'.flatMap tokCells).length = (A.length - 1) * 3) := Lib.hid (by rw [tok_len, hAn]; rfl)
                have hcap : ∀ (w : World) (b : Nat) (g c : Nat), w.ownsRow b 38 3 (.slice (some ⟨g, 0, none⟩) A.length c) A.length (A.flatMap tokCells) → A.length ≤ c := fun w b g c h => by
                  rcases ownsRow_cases h with ⟨h, _⟩ | ⟨g', cap', h, _, hc, _⟩
                  · simp at h
                  · simp at h; omega
                have HCAP := Lib.hid hcap
                clear hA hB hR hE hA2 hAn hCl hpre hcap
                go_wp2_with (first
                  | (go_at_call 10; rw [HX.out]; (with_reducible refine (all_any _ _ HXS.out).mono ?_); rw [HQ1.out, HA.out]; rintro e w1 ⟨⟨v1, rfl, hown1⟩, hb1⟩; obtain ⟨g1, k1, rfl⟩ := Go.Joins.ownsRow_form hown1 hA0; have hk1 := HCAP.out _ _ _ _ hown1)
                  | (go_at_call 10; (with_reducible refine (all_any _ _ HTS.out).mono ?_); rw [HQ2.out, HB.out]; rintro e w2 ⟨⟨v2, rfl, hown2⟩, hb2⟩; have f0 := cell_new hb2 (off := 0) rfl; have f1 := cell_new hb2 (off := 1) rfl; have hlt12 : w1.heap.size < w2.heap.size := World.block_lt_of_cell? _ _ f0; obtain ⟨g2, k2, rfl⟩ := Go.Joins.ownsRow_form hown2 hB0'; have x1 := ownsRow_on hb2 hown1)
                  | (go_at_call 10; rw [HX.out, HZ.out]; (with_reducible refine (all_any _ _ HZS.out).mono ?_); rw [HQ3.out, HR.out]; rintro e w3 ⟨⟨v3, rfl, hown3⟩, hb3⟩; have x1' := ownsRow_on hb3 x1; have x2 := ownsRow_on hb3 hown2)
                  | (go_at_call 12; refine (awake_any _).mono ?_; rintro e w4 ⟨rfl, hb4⟩; have g0 := cell_new hb4 (off := 0) rfl; have g1' := cell_new hb4 (off := 1) rfl; have y1 := ownsRow_on hb4 x1'; have y2 := ownsRow_on hb4 x2; have y3 := ownsRow_on hb4 hown3)
                  | (at_builtin; (refine append_row er23 (w := w4) (base := w4.heap.size) (s := .const (.slice none 0 0)) (x := .tmp 109) (n := 0) (xs := []) (v := .slice none 0 0) (ad := ⟨g1, 0, none⟩) (m := A.length - 1) (c := k1) (news := A'.flatMap tokCells) (by rfl) (by rfl) (World.ownsRow_nil _ _ _ _) (by rfl) (by rfl) HAl.out (fun j u h => y1.cells rfl j u (HPRE.out j u h)) (tok_one A') (by omega) (by omega) (Nat.le_refl _) ?_); intro v5 w5 hown5 _ hb5; have z2 := ownsRow_below y2 hb5; have z3 := ownsRow_below y3 hb5)
                  | (at_builtin; (refine append_row er23 (w := w5) (base := w4.heap.size) (s := .tmp 110) (x := .tmp 111) (n := 0 + (A.length - 1)) (xs := [] ++ A'.flatMap tokCells) (v := v5) (ad := ⟨g2, 0, none⟩) (m := B.length) (c := k2) (news := B.flatMap tokCells) (by rfl) (by rfl) hown5 (by rfl) (by rfl) (tok_len B) (fun j u h => z2.cells rfl j u h) (tok_one B) (by omega) (by omega) hb5.size ?_); intro v6 w6 hown6 _ hb6; have u3 := ownsRow_below y3 (hb5.trans hb6)))
                have h6 : w6.ownsRow w4.heap.size 38 3 v6 (A' ++ B).length ((A' ++ B).flatMap tokCells) := by
                  rw [List.flatMap_append, show (A' ++ B).length = 0 + (A.length - 1) + B.length by rw [List.length_append]; omega]
                  exact hown6
                go_wp2_with (go_at_call 13; (refine (eq_any (A' ++ C) (A' ++ B) v3 v6 false _ _ w6 u3 h6 (by rw [List.length_append]; omega) (by rw [List.length_append]; omega)).mono ?_); rw [HE.out]; rintro e w7 ⟨rfl, hb7⟩)
                go_ret
                exact ⟨rfl, bel2 (bel2 (bel3 (bel2 hb0 hb1) (below_on hb2) (below_on hb3) (below_on hb4)) (hb5.trans hb6)) hb7⟩

end Go.Proofs.Ytcjgilfbcoadjaa
