/- The reference's shown and line. -/
import Derived.Test.YthdcgplocdehjaaZJ
import Derived.Test.YthdcgplocdehjaaZC
namespace Go.Proofs.Ythdcgplocdehjaa
open Go.RowKit Go.Proofs.Kit

set_option maxHeartbeats 1000000 in
theorem rshown_c (v : ByteArray) (w : World) (hs : v.size ≤ 1000) :
    Calls Try.prog 45 #[.string v] w fun e w' => e = .returned (.tuple #[.string ⟨(shownL v.data.toList).toArray⟩, .bool (v.data.toList.all isPrint)]) ∧ w = w' := by
  have BA := Lib.hid (rbare_any v w (by unfold maxLen; omega))
  have QA := Lib.hid (rquote_any v w (by omega))
  obtain ⟨A, hA⟩ : ∃ A : ByteArray, (⟨(shownL v.data.toList).toArray⟩ : ByteArray) = A := ⟨_, rfl⟩
  obtain ⟨ok, hok⟩ : ∃ x, v.data.toList.all isPrint = x := ⟨_, rfl⟩
  rw [hA, hok]
  cases hb : rbareL v.data.toList
  · have e1 : (⟨(quoteL v.data.toList).1.toArray⟩ : ByteArray) = A := by rw [← hA]; unfold shownL; rw [hb]; rfl
    have e2 : (quoteL v.data.toList).2 = ok := by rw [quoteL_ok, hok]
    rw [e1, e2] at QA
    rw [hb] at BA
    clear hA hok hb e1 e2
    go_enter Try.func45, Try.ntmps45
    go_wp2_with (first
      | (go_at_call 62; ((with_reducible refine (BA.out).mono ?_); rintro e w1 ⟨rfl, rfl⟩))
      | (go_at_call 27; ((with_reducible refine (QA.out).mono ?_); rintro e w2 ⟨rfl, rfl⟩)))
    go_ret2
    exact ⟨rfl, rfl⟩
  · have e1 : v = A := by rw [← hA]; unfold shownL; rw [hb, if_pos rfl]
    have e2 : true = ok := by rw [← hok]; exact (bare_print hb).symm
    rw [hb] at BA
    have H1 := Lib.hid e1
    have H2 := Lib.hid e2
    clear hA hok hb e1 e2
    go_enter Try.func45, Try.ntmps45
    go_wp2_with (go_at_call 62; ((with_reducible refine (BA.out).mono ?_); rintro e w1 ⟨rfl, rfl⟩))
    go_ret2
    exact ⟨ret_sbb H1.out H2.out, rfl⟩

/-- What stands behind the key. -/
def accL (vs : List (List UInt8)) : List UInt8 := match vs with
  | [] => []
  | v :: vs => 32 :: Lib.join ((v :: vs).map shownL) [44, 32]
theorem accL_snoc (vs : List (List UInt8)) (v : List UInt8) : accL (vs ++ [v]) = accL vs ++ ((if vs.isEmpty then [] else [44]) ++ 32 :: shownL v) := by
  cases vs with
  | nil => simp [accL, Lib.join_one]
  | cons a r =>
    have h : ∀ (x : List UInt8) (r : List (List UInt8)), Lib.join (x :: r ++ [shownL v]) [44, 32] = Lib.join (x :: r) [44, 32] ++ [44, 32] ++ shownL v := fun x r => by
      rw [List.cons_append, Lib.join_cons, Lib.join_cons]
      simp [Lib.joinTail]
    simp only [accL, List.cons_append, List.map_cons, List.map_append, List.map_nil]
    rw [← List.cons_append, h]
    simp
theorem accL_app (b a : List (List UInt8)) : (accL a).length ≤ (accL (a ++ b)).length := by
  induction b generalizing a with
  | nil => simp
  | cons x b ih =>
    have h := ih (a ++ [x])
    rw [accL_snoc, List.append_assoc] at h
    rw [List.length_append] at h
    simp only [List.singleton_append] at h
    omega
theorem accL_take (vs : List (List UInt8)) (k : Nat) : ((accL (vs.take k))).length ≤ (accL vs).length := by
  have := accL_app (vs.drop k) (vs.take k)
  rwa [List.take_append_drop] at this
theorem fieldL_acc {α : Type} (f : FldA α) (h : f.2.1 ≠ []) : fieldL f = [32, 32, 32, 32] ++ f.1 ++ accL f.2.1 ++ [59, 10] := by
  unfold fieldL accL
  cases hv : f.2.1 with
  | nil => exact absurd hv h
  | cons a r => simp
/-- What the reference's line hands back. -/
def RL {α : Type} (f : FldA α) (S : ByteArray) (ok : Bool) : Prop := S.size ≤ 3000000 ∧ (ok = true → fieldOk f = true ∧ S.data.toList = fieldL f ∧ (fieldL f).length ≤ 20002) ∧ (ok = false → fieldOk f = false ∨ 20002 < (fieldL f).length)

section
variable {α : Type}
theorem RL.bad {f : FldA α} {S : ByteArray} {ok : Bool} (h : ok = false) (hf : fieldOk f = false ∨ 20002 < (fieldL f).length) (hs : S.size ≤ 3000000) : RL f S ok := ⟨hs, fun h' => by rw [h] at h'; simp at h', fun _ => hf⟩

set_option maxRecDepth 100000 in
set_option maxHeartbeats 4000000 in
theorem rline_c {f : FldA α} (hf : SmF f) {u : Value} {l : Int} (w : World) (hu : RowAt w u (f.2.1.map strV)) :
    Calls Try.prog 29 #[.agg #[strV f.1, u, .int .i64 l]] w fun e w' => ∃ S ok, e = .returned (.tuple #[.string S, .bool ok]) ∧ RL f S ok ∧ Below w.heap.size w w' := by
  obtain ⟨K, hK⟩ : ∃ K : ByteArray, (⟨f.1.toArray⟩ : ByteArray) = K := ⟨_, rfl⟩
  have hKd : K.data.toList = f.1 := by rw [← hK]
  have hKs : K.size ≤ 1000 := by rw [Lib.size_eq, hKd]; exact hf.1
  have HKD := Lib.hid hKd
  obtain ⟨p, cap, eu, hc1, hc2⟩ := RowAt.shapeS hu
  have hn := hf.2.1
  obtain ⟨n, hnn⟩ : ∃ n, f.2.1.length = n := ⟨_, rfl⟩
  have HN := Lib.hid hnn
  rw [hnn] at eu hc1 hn
  subst eu
  have hBd : Below w.heap.size w (w.alloc (.cells #[.string K, .slice p n cap, .int .i64 l] 42)) := (Below.refl _ _).alloc (Nat.le_refl _) _
  have R0 := Lib.hid (Bk.new w #[.string K, .slice p n cap, .int .i64 l] 42)
  obtain ⟨c0, c1, c2⟩ := R0.out.three
  have hu0 := Lib.hid (hu.keep hBd)
  have WA := Lib.hid (rword_any K (w.alloc (.cells #[.string K, .slice p n cap, .int .i64 l] 42)) (by unfold maxLen; omega))
  rw [HKD.out] at WA
  rw [show strV f.1 = .string K by unfold strV; rw [hK]]
  obtain ⟨wd, hwd⟩ : ∃ b, wordB f.1 = b := ⟨_, rfl⟩
  have HWD := Lib.hid hwd
  rw [hwd] at WA
  have HOK : Hid (fieldOk f = (wd && !f.2.1.isEmpty && f.2.1.all (fun v => v.all isPrint))) := Lib.hid (by unfold fieldOk; rw [hwd])
  have HNE : Hid (n ≠ 0 → f.2.1.isEmpty = false ∧ f.2.1 ≠ []) := Lib.hid (fun h => by
    have h2 : f.2.1 ≠ [] := fun e => h (by rw [← hnn, e]; rfl)
    exact ⟨by rw [Bool.eq_false_iff]; intro hh; exact h2 (List.isEmpty_iff.1 hh), h2⟩)
  have HZ : Hid (n = 0 → fieldOk f = false) := Lib.hid (fun h => by
    have e : f.2.1 = [] := List.length_eq_zero_iff.1 (by rw [hnn, h])
    unfold fieldOk
    rw [e]; simp)
  clear hK hKd hwd hu hnn
  obtain ⟨X, hX⟩ : ∃ X, w.alloc (.cells #[.string K, .slice p n cap, .int .i64 l] 42) = X := ⟨_, rfl⟩
  rw [hX] at hBd R0 c0 c1 c2 hu0 WA
  have HX := Lib.hid hX
  clear hX
  go_enter Try.func29, Try.ntmps29
  go_upto_region 1 with fail
  rw [HX.out]
  go_cut [4] (fun s4 wx => s4 = .bool (wd && decide (n ≠ 0)) ∧ wx = X)
  case first =>
    cases wd
    · go_wp2_with (go_at_call 28; ((with_reducible refine (WA.out).mono ?_); rintro e w1 ⟨rfl, rfl⟩))
      go_meet
      exact ⟨rfl, rfl⟩
    · by_cases h0 : n = 0
      · subst h0
        go_wp2_with (go_at_call 28; ((with_reducible refine (WA.out).mono ?_); rintro e w1 ⟨rfl, rfl⟩))
        go_meet
        exact ⟨rfl, rfl⟩
      · have h1 : decide ((0 : Int) < (n : Int)) = true := by rw [decide_eq_true_iff]; omega
        have h2 : (0 : Int) < (n : Int) := by omega
        go_wp2_with (go_at_call 28; ((with_reducible refine (WA.out).mono ?_); rintro e w1 ⟨rfl, rfl⟩))
        go_meet
        exact ⟨by first | (simp [h0]; done) | (simp [h0]; omega), rfl⟩
  case rest =>
    obtain ⟨rfl, rfl⟩ := hcut
    obtain ⟨ok0, hok0⟩ : ∃ x, (wd && decide (n ≠ 0)) = x := ⟨_, rfl⟩
    rw [hok0]
    have HO0 := Lib.hid hok0
    clear hok0
    go_wp2_with fail
    have hX0 : Below w.heap.size w wc := hBd
    go_loopw [4, 5, 6] (fun o t i wr => ∃ k : Nat, ∃ T : ByteArray, ∃ ok : Bool, o = .bool ok ∧ t = .string T ∧ i = .int .i64 k ∧ k ≤ n ∧ T.size ≤ 1004 + k * 2004 ∧ wr = wc ∧ Hid (ok = true → n ≠ 0 ∧ wd = true ∧ T.data.toList = [32, 32, 32, 32] ++ f.1 ++ accL (f.2.1.take k) ∧ (f.2.1.take k).all (fun v => v.all isPrint) = true ∧ (0 < k → T.size ≤ 20000)) ∧ Hid (ok = false → fieldOk f = false ∨ 20002 < (fieldL f).length)) (fun _ _ i _ => n - (intOf i).toNat)
    case atStart =>
      refine ⟨0, _, ok0, rfl, rfl, rfl, Nat.zero_le _, by rw [size_cat, show (⟨#[32, 32, 32, 32]⟩ : ByteArray).size = 4 from rfl]; omega, rfl, Lib.hid (fun h => ?_), Lib.hid (fun h => ?_)⟩
      · have h2 := HO0.out
        rw [h] at h2
        simp only [Bool.and_eq_true, decide_eq_true_eq] at h2
        refine ⟨h2.2, h2.1, ?_, rfl, fun hh => absurd hh (by omega)⟩
        rw [data_app', HKD.out]
        simp [accL]
      · have h2 := HO0.out
        rw [h] at h2
        simp only [Bool.and_eq_false_iff, decide_eq_false_iff_not] at h2
        rcases h2 with h2 | h2
        · left; rw [HOK.out, h2]; rfl
        · exact .inl (HZ.out (by omega))
    case round =>
      obtain ⟨k, T, ok, rfl, rfl, rfl, hk, hTs, rfl, hyes, hno⟩ := hrel
      by_cases hlt : k < n
      · cases ok
        · have hnf := Lib.hid (hno.out rfl)
          clear hyes hno
          go_wp2_with fail
          go_ret2
          exact ⟨_, _, rfl, RL.bad rfl hnf.out (by rw [size_cat, show (⟨#[59, 10]⟩ : ByteArray).size = 2 from rfl]; omega), hX0⟩
        · obtain ⟨hok1, hok2, hok3, hok4, hok5⟩ := hyes.out rfl
          have hkl : k < f.2.1.length := by rw [HN.out]; exact hlt
          obtain ⟨b, off, cap', eb, hx1, hx2, hbl, hcell⟩ := RowAt.strAt hu0.out hkl
          injection eb with eb1 eb2 eb3
          subst eb1
          subst eb3
          clear eb2
          have hck := hcell k hkl
          obtain ⟨v, hv⟩ : ∃ v, f.2.1[k] = v := ⟨_, rfl⟩
          have hvl : v.length ≤ 1000 := by rw [← hv]; exact hf.2.2 _ (List.getElem_mem hkl)
          have HAC : Hid (accL (f.2.1.take (k + 1)) = accL (f.2.1.take k) ++ ((if (f.2.1.take k).isEmpty then [] else [44]) ++ 32 :: shownL v)) := Lib.hid (by rw [List.take_succ_eq_append_getElem hkl, hv, accL_snoc])
          rw [hv] at hck
          obtain ⟨U, hU⟩ : ∃ U : ByteArray, (⟨v.toArray⟩ : ByteArray) = U := ⟨_, rfl⟩
          have hUd : U.data.toList = v := by rw [← hU]
          have hUs : U.size ≤ 1000 := by rw [Lib.size_eq, hUd]; exact hvl
          rw [hU] at hck
          obtain ⟨wo, hwo⟩ : ∃ x, x = wr := ⟨_, rfl⟩
          have SA := rshown_c U wr hUs
          rw [hUd] at SA
          obtain ⟨V, hV⟩ : ∃ V : ByteArray, (⟨(shownL v).toArray⟩ : ByteArray) = V := ⟨_, rfl⟩
          have HVD : Hid (V.data.toList = shownL v) := Lib.hid (by rw [← hV])
          have hVs : V.size ≤ 2002 := by rw [← hV, size_mk]; have := shownL_len v; omega
          obtain ⟨fine, hfi⟩ : ∃ x, v.all isPrint = x := ⟨_, rfl⟩
          rw [hV, hfi] at SA
          have SA := Lib.hid SA
          have HPb : Hid (fine = false → fieldOk f = false) := Lib.hid (fun h => by rw [HOK.out, all_not hkl (by rw [hv, hfi, h]), Bool.and_false])
          have HP1 : Hid (fine = true → (f.2.1.take (k + 1)).all (fun v => v.all isPrint) = true) := Lib.hid (fun h => all_snoc _ f.2.1 k hkl hok4 (by rw [hv, hfi, h]))
          have HEm : Hid ((if (f.2.1.take k).isEmpty then ([] : List UInt8) else [44]) = if k = 0 then [] else [44]) := Lib.hid (by
            by_cases hk0 : k = 0
            · subst hk0; rfl
            · rw [if_neg hk0, if_neg]
              intro hh
              have := congrArg List.length (List.isEmpty_iff.1 hh)
              rw [List.length_take, List.length_nil] at this
              omega)
          clear hV hU hUd hv hcell hkl hfi hno hyes hwo
          by_cases hk0 : k = 0
          · rw [if_pos hk0] at HEm
            subst hk0
            have hck : wr.cell? ⟨b, off, none⟩ = some (.string U) := hck
            have HT : Hid ((T ++ ((⟨#[32]⟩ : ByteArray) ++ V)).data.toList = [32, 32, 32, 32] ++ f.1 ++ accL (f.2.1.take (0 + 1))) := Lib.hid (by
              rw [HAC.out, HEm.out]
              simp only [data_app', hok3, HVD.out]
              simp)
            have HLONG : Hid (20000 < (T ++ ((⟨#[32]⟩ : ByteArray) ++ V)).size → 20002 < (fieldL f).length) := Lib.hid (fun h => by
              rw [Lib.size_eq, HT.out] at h
              have h2 := accL_take f.2.1 (0 + 1)
              rw [fieldL_acc f (HNE.out (by omega)).2]
              simp only [List.length_append, List.length_cons, List.length_nil] at h ⊢
              omega)
            have hSZ : (T ++ ((⟨#[32]⟩ : ByteArray) ++ V)).size = T.size + (1 + V.size) := by
              simp only [size_cat]
              rfl
            have HSZ := Lib.hid hSZ
            clear hSZ
            by_cases hle : T.size + (1 + V.size) ≤ 20000
            · have t1 : decide ((T.size : Int) + (1 + (V.size : Int)) ≤ (20000 : Int)) = true := by rw [decide_eq_true_iff]; omega
              have t2 : (T.size : Int) + (1 + (V.size : Int)) ≤ (20000 : Int) := by omega
              cases fine
              · go_wp2_with (go_at_call 45; ((with_reducible refine (SA.out).mono ?_); rintro e w2 ⟨rfl, rfl⟩))
                go_roundw
                case rel =>
                  exact ⟨0 + 1, _, _, rfl, rfl, rfl, by omega, by rw [HSZ.out]; omega, (by first | rfl | trivial), Lib.hid (fun h => by simp at h), Lib.hid (fun _ => .inl (HPb.out (by first | rfl | trivial)))⟩
                case measure => simp [intOf]; omega
              · go_wp2_with (go_at_call 45; ((with_reducible refine (SA.out).mono ?_); rintro e w2 ⟨rfl, rfl⟩))
                go_roundw
                case rel =>
                  exact ⟨0 + 1, _, _, rfl, rfl, rfl, by omega, by rw [HSZ.out]; omega, (by first | rfl | trivial), Lib.hid (fun _ => ⟨hok1, hok2, HT.out, HP1.out (by first | rfl | trivial), fun _ => by rw [HSZ.out]; exact hle⟩), Lib.hid (fun h => by simp at h)⟩
                case measure => simp [intOf]; omega
            · exact absurd (show T.size + (1 + V.size) ≤ 20000 by omega) hle
          · rw [if_neg hk0] at HEm
            have hk1 : 0 < k := by omega
            clear hk0
            have g1 : decide ((0 : Int) < (k : Int)) = true := by rw [decide_eq_true_iff]; omega
            have g2 : (0 : Int) < (k : Int) := by omega
            have HT : Hid (((T ++ (⟨#[44]⟩ : ByteArray)) ++ ((⟨#[32]⟩ : ByteArray) ++ V)).data.toList = [32, 32, 32, 32] ++ f.1 ++ accL (f.2.1.take (k + 1))) := Lib.hid (by
              rw [HAC.out, HEm.out]
              simp only [data_app', hok3, HVD.out]
              simp)
            have HLONG : Hid (20000 < ((T ++ (⟨#[44]⟩ : ByteArray)) ++ ((⟨#[32]⟩ : ByteArray) ++ V)).size → 20002 < (fieldL f).length) := Lib.hid (fun h => by
              rw [Lib.size_eq, HT.out] at h
              have h2 := accL_take f.2.1 (k + 1)
              rw [fieldL_acc f (HNE.out (by omega)).2]
              simp only [List.length_append, List.length_cons, List.length_nil] at h ⊢
              omega)
            have hSZ : ((T ++ (⟨#[44]⟩ : ByteArray)) ++ ((⟨#[32]⟩ : ByteArray) ++ V)).size = T.size + 1 + (1 + V.size) := by
              simp only [size_cat]
              rfl
            have HSZ := Lib.hid hSZ
            clear hSZ
            by_cases hle : T.size + 1 + (1 + V.size) ≤ 20000
            · have t1 : decide ((T.size : Int) + 1 + (1 + (V.size : Int)) ≤ (20000 : Int)) = true := by rw [decide_eq_true_iff]; omega
              have t2 : (T.size : Int) + 1 + (1 + (V.size : Int)) ≤ (20000 : Int) := by omega
              cases fine
              · go_wp2_with (go_at_call 45; ((with_reducible refine (SA.out).mono ?_); rintro e w2 ⟨rfl, rfl⟩))
                go_roundw
                case rel =>
                  exact ⟨k + 1, _, _, rfl, rfl, by go_num, by omega, by rw [HSZ.out]; omega, (by first | rfl | trivial), Lib.hid (fun h => by simp at h), Lib.hid (fun _ => .inl (HPb.out (by first | rfl | trivial)))⟩
                case measure => simp [intOf]; omega
              · go_wp2_with (go_at_call 45; ((with_reducible refine (SA.out).mono ?_); rintro e w2 ⟨rfl, rfl⟩))
                go_roundw
                case rel =>
                  exact ⟨k + 1, _, _, rfl, rfl, by go_num, by omega, by rw [HSZ.out]; omega, (by first | rfl | trivial), Lib.hid (fun _ => ⟨hok1, hok2, HT.out, HP1.out (by first | rfl | trivial), fun _ => by rw [HSZ.out]; exact hle⟩), Lib.hid (fun h => by simp at h)⟩
                case measure => simp [intOf]; omega
            · have t1 : decide ((T.size : Int) + 1 + (1 + (V.size : Int)) ≤ (20000 : Int)) = false := by rw [decide_eq_false_iff_not]; omega
              have t2 : ¬ (T.size : Int) + 1 + (1 + (V.size : Int)) ≤ (20000 : Int) := by omega
              cases fine
              · go_wp2_with (go_at_call 45; ((with_reducible refine (SA.out).mono ?_); rintro e w2 ⟨rfl, rfl⟩))
                go_roundw
                case rel =>
                  exact ⟨k + 1, _, _, rfl, rfl, by go_num, by omega, by rw [HSZ.out]; omega, (by first | rfl | trivial), Lib.hid (fun h => by simp at h), Lib.hid (fun _ => .inl (HPb.out (by first | rfl | trivial)))⟩
                case measure => simp [intOf]; omega
              · go_wp2_with (go_at_call 45; ((with_reducible refine (SA.out).mono ?_); rintro e w2 ⟨rfl, rfl⟩))
                go_roundw
                case rel =>
                  exact ⟨k + 1, _, _, rfl, rfl, by go_num, by omega, by rw [HSZ.out]; omega, (by first | rfl | trivial), Lib.hid (fun h => by simp at h), Lib.hid (fun _ => .inr (HLONG.out (by rw [HSZ.out]; omega)))⟩
                case measure => simp [intOf]; omega
      · have hkn : k = n := by omega
        subst hkn
        have hT : f.2.1.take k = f.2.1 := by rw [← HN.out, List.take_length]
        have HRL : Hid (RL f (T ++ (⟨#[59, 10]⟩ : ByteArray)) ok) := Lib.hid (by
          have hS2 : (T ++ (⟨#[59, 10]⟩ : ByteArray)).size = T.size + 2 := by rw [size_cat]; rfl
          cases ok
          · exact RL.bad rfl (hno.out rfl) (by rw [hS2]; omega)
          · obtain ⟨hok1, hok2, hok3, hok4, hok5⟩ := hyes.out rfl
            rw [hT] at hok3 hok4
            have hS : (T ++ (⟨#[59, 10]⟩ : ByteArray)).data.toList = fieldL f := by rw [data_app', hok3, fieldL_acc f (HNE.out hok1).2]
            refine ⟨by rw [hS2]; omega, fun _ => ⟨?_, hS, ?_⟩, fun h => by simp at h⟩
            · rw [HOK.out, hok2, (HNE.out hok1).1, hok4]; rfl
            · rw [← hS, ← Lib.size_eq, hS2]
              have := hok5 (by omega)
              omega)
        clear hT hyes hno
        cases ok
        all_goals
          go_wp2_with fail
          go_ret2
          exact ⟨_, _, rfl, HRL.out, hX0⟩
end

end Go.Proofs.Ythdcgplocdehjaa
