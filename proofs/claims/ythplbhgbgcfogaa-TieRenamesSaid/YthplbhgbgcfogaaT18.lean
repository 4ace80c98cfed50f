/- The walk of TieTells. -/
import Derived.Test.YthplbhgbgcfogaaT3
import Derived.Test.YthplbhgbgcfogaaT17
namespace Go.Proofs.Ythplbhgbgcfogaa
open Go.RowKit Go.Proofs.Kit Go.Proofs.Nums

theorem rounds_s {v : Value} {L : List (List Int)} {w : World} (hv : GridAt w v L) (den : Int) :
    Calls Try.prog 12 #[v, .int .i64 den] w fun e w' => ∃ v', e = .returned v' ∧ (∃ M, M.length ≤ 6 ∧ RoundsAt w' v' M) ∧ Below w.heap.size w w' :=
  (rounds_c hv den).mono (by
    rintro e w' ⟨v', rfl, ⟨M, h6, css, h⟩, hb⟩
    exact ⟨v', rfl, ⟨M, h6, h.slice⟩, hb⟩)
theorem mod_one (x : Int) (m : Nat) (h : 1 ≤ m) : ∃ k : Nat, 1 + x % (m : Int) = (k : Int) ∧ 1 ≤ k ∧ k ≤ m := by
  have h1 := Int.emod_nonneg x (b := (m : Int)) (by omega)
  have h2 := Int.emod_lt_of_pos x (b := (m : Int)) (by omega)
  exact ⟨(1 + x % (m : Int)).toNat, by omega, by omega, by omega⟩

/-- Both break a tie alike. -/
theorem both {vt vl : Value} {tied lots : List Int} {w : World} (ht : IntsAt w vt tied) (hl : IntsAt w vl lots) (rule : Int) (least : Bool) (M : List (List Q)) :
    ∃ x y, (∀ w' vM, Below w.heap.size w w' → RoundsAt w' vM M → Calls Try.prog 13 #[.int .i64 rule, vM, vt, vl, .bool least] w' fun e w'' => e = .returned (.tuple #[.int .i64 x, .bool y]) ∧ Below w'.heap.size w' w'') ∧
      (∀ w' vM, Below w.heap.size w w' → RoundsAt w' vM M → Calls Try.prog 14 #[.int .i64 rule, vM, vt, vl, .bool least] w' fun e w'' => e = .returned (.tuple #[.int .i64 x, .bool y]) ∧ Below w'.heap.size w' w'') :=
  ⟨_, _, fun _ _ hb hM => tbreak_c hM (ht.keep hb) (hl.keep hb) rule least, fun _ _ hb hM => rbreak_c hM (ht.keep hb) (hl.keep hb) rule least⟩
theorem bothV {vt vl : Value} {tied lots : List Int} {w : World} (ht : IntsAt w vt tied) (hl : IntsAt w vl lots) (rule : Int) :
    ∃ b, (∀ w', Below w.heap.size w w' → Calls Try.prog 15 #[.int .i64 rule, vt, vl] w' fun e w'' => e = .returned (.bool b) ∧ Below w'.heap.size w' w'') ∧
      (∀ w', Below w.heap.size w w' → Calls Try.prog 16 #[.int .i64 rule, vt, vl] w' fun e w'' => e = .returned (.bool b) ∧ Below w'.heap.size w' w'') :=
  ⟨_, fun _ hb => tvalid_c (ht.keep hb) (hl.keep hb) rule, fun _ hb => rtie_c (ht.keep hb) (hl.keep hb) rule⟩

set_option maxRecDepth 100000 in
set_option maxHeartbeats 4000000 in
theorem walk_TieTells {ve vt vl : Value} {L : List (List Int)} {who lots : List Int} {w : World} (rule : Int) (hL : GridAt w ve L) (den : Int) (ht : IntsAt w vt who) (hl : IntsAt w vl lots) (least raw : Bool) (n code : Int) (hc1 : -9223372036854775808 ≤ code) (hc2 : code ≤ 9223372036854775807) :
    Calls Try.prog 3 #[.int .i64 rule, ve, .int .i64 den, vt, vl, .bool least, .bool raw, .int .i64 n, .int .i64 code] w fun e w' => e = .returned (.bool true) ∧ Below w.heap.size w w' := by
  have AW := Lib.hid awake_c
  have HT := Lib.hid ht
  have HL := Lib.hid hl
  have RD : Hid (∀ w', Below w.heap.size w w' → Calls Try.prog 12 #[ve, .int .i64 den] w' fun e w'' => ∃ v', e = .returned v' ∧ (∃ M, M.length ≤ 6 ∧ RoundsAt w'' v' M) ∧ Below w'.heap.size w' w'') := Lib.hid (fun w' hb => rounds_s (hL.keep hb) den)
  obtain ⟨p2, c2, rfl⟩ := ht.shape
  obtain ⟨p3, c3, rfl⟩ := hl.shape
  obtain ⟨nw, hnw⟩ : ∃ n, who.length = n := ⟨_, rfl⟩
  obtain ⟨nl, hnl⟩ : ∃ n, lots.length = n := ⟨_, rfl⟩
  rw [hnw] at HT
  rw [hnl] at HL
  rw [hnw, hnl]
  clear ht hl hL hnw hnl
  by_cases h9 : 9 < nw
  · have z1 : (9 : Int) < (nw : Int) := by omega
    go_enter Try.func3, Try.ntmps3
    go_wp2_with (go_at_call 8; ((with_reducible refine (AW.out _).mono ?_); rintro e w1 ⟨rfl, hb1⟩))
    go_ret
    exact ⟨rfl, hb1⟩
  by_cases h8 : 9 < nl
  · have z1 : ¬ (9 : Int) < (nw : Int) := by omega
    have z2 : (9 : Int) < (nl : Int) := by omega
    go_enter Try.func3, Try.ntmps3
    go_wp2_with (go_at_call 8; ((with_reducible refine (AW.out _).mono ?_); rintro e w1 ⟨rfl, hb1⟩))
    go_ret
    exact ⟨rfl, hb1⟩
  have z1 : ¬ (9 : Int) < (nw : Int) := by omega
  have z2 : ¬ (9 : Int) < (nl : Int) := by omega
  cases raw
  · obtain ⟨n1, e1, n1a, n1b⟩ := mod_one n 7 (by omega)
    obtain ⟨r1, e2, r1a, r1b⟩ := mod_one rule 3 (by omega)
    have M7 : Hid (∀ w, Calls Try.prog 9 #[.int .i64 n, .int .i64 7] w fun e w' => e = .returned (.int .i64 (n % 7)) ∧ w = w') := Lib.hid (fun w => mod_c n 7 (by omega) (by omega) w)
    have M3 : Hid (∀ w, Calls Try.prog 9 #[.int .i64 rule, .int .i64 3] w fun e w' => e = .returned (.int .i64 (rule % 3)) ∧ w = w') := Lib.hid (fun w => mod_c rule 3 (by omega) (by omega) w)
    obtain ⟨a7, ha7⟩ : ∃ x, n % 7 = x := ⟨_, rfl⟩
    obtain ⟨a3, ha3⟩ : ∃ x, rule % 3 = x := ⟨_, rfl⟩
    rw [ha7] at M7
    rw [ha3] at M3
    have e1' : (1 : Int) + a7 = (n1 : Int) := by rw [← ha7]; exact e1
    have e2' : (1 : Int) + a3 = (r1 : Int) := by rw [← ha3]; exact e2
    have x1 : IntKind.i64.wrap (n1 : Int) = (n1 : Int) := w64 (by omega) (by omega)
    have x2 : IntKind.i64.wrap (r1 : Int) = (r1 : Int) := w64 (by omega) (by omega)
    have TI : Hid (∀ w', Below w.heap.size w w' → Calls Try.prog 10 #[.int .i64 n1, .slice p2 nw c2] w' fun e w'' => ∃ v', e = .returned v' ∧ IntsAt w'' v' (tiedS n1 who) ∧ Below w'.heap.size w' w'') := Lib.hid (fun w' hb => tied_c (HT.out.keep hb) n1 n1a (by omega))
    have PE : Hid (∀ w', Calls Try.prog 11 #[.int .i64 n1, .int .i64 code] w' fun e w'' => ∃ v', e = .returned v' ∧ IntsAt w'' v' (permS n1 code) ∧ Fresh w'.heap.size v' ∧ Below w'.heap.size w' w'') := Lib.hid (fun w' => perm_x n1 (by omega) code hc1 hc2 w')
    obtain ⟨ti, hti⟩ : ∃ x, tiedS n1 who = x := ⟨_, rfl⟩
    obtain ⟨pe, hpe⟩ : ∃ x, permS n1 code = x := ⟨_, rfl⟩
    rw [hti] at TI
    rw [hpe] at PE
    clear e1 e2 ha7 ha3 hti hpe
    go_enter Try.func3, Try.ntmps3
    go_wp2_with (first
      | (go_at_call 9; ((with_reducible refine (M7.out _).mono ?_); rintro e w9 ⟨rfl, rfl⟩))
      | (go_at_call 9; ((with_reducible refine (M3.out _).mono ?_); rintro e w9 ⟨rfl, rfl⟩))
      | (go_at_call 10; ((with_reducible refine (TI.out _ (Below.refl _ _)).mono ?_); rintro e w1 ⟨v1, rfl, ht1, hb1⟩))
      | (go_at_call 11; ((with_reducible refine (PE.out _).mono ?_); rintro e w2 ⟨v2, rfl, hl2, _, hb2⟩; have hB2 := bel2' hb1 hb2; have ht2 := ht1.keep hb2; obtain ⟨vv, V1, V2⟩ := bothV ht2 hl2 r1; have V1 := Lib.hid V1; have V2 := Lib.hid V2))
      | (go_at_call 12; ((with_reducible refine (RD.out _ hB2).mono ?_); rintro e w3 ⟨v3, rfl, ⟨M, hM6, hM⟩, hb3⟩; obtain ⟨x, y, T1, T2⟩ := both ht2 hl2 r1 least M; have T1 := Lib.hid T1; have T2 := Lib.hid T2; have hB3 := bel2' hB2 hb3))
      | (go_at_call 13; ((with_reducible refine (T1.out _ _ hb3 hM).mono ?_); rintro e w4 ⟨rfl, hb4⟩; have hb34 := bel2' hb3 hb4; have hM4 := hM.keep hb4; have hB4 := bel2' hB3 hb4))
      | (go_at_call 14; ((with_reducible refine (T2.out _ _ hb34 hM4).mono ?_); rintro e w5 ⟨rfl, hb5⟩; have hb35 := bel2' hb34 hb5; have hB5 := bel2' hB4 hb5))
      | (go_at_call 8; ((with_reducible refine (AW.out _).mono ?_); rintro e w6 ⟨rfl, hb6⟩; have hb36 := bel2' hb35 hb6; have hB6 := bel2' hB5 hb6))
      | (go_at_call 15; ((with_reducible refine (V1.out _ hb36).mono ?_); rintro e w7 ⟨rfl, hb7⟩; have hb37 := bel2' hb36 hb7; have hB7 := bel2' hB6 hb7))
      | (go_at_call 16; ((with_reducible refine (V2.out _ hb37).mono ?_); rintro e w8 ⟨rfl, hb8⟩; have hB8 := bel2' hB7 hb8)))
    go_ret
    exact ⟨rfl, hB8⟩
  · obtain ⟨vv, V1, V2⟩ := bothV HT.out HL.out rule
    have V1 := Lib.hid V1
    have V2 := Lib.hid V2
    go_enter Try.func3, Try.ntmps3
    go_wp2_with (first
      | (go_at_call 12; ((with_reducible refine (RD.out _ (Below.refl _ _)).mono ?_); rintro e w3 ⟨v3, rfl, ⟨M, hM6, hM⟩, hb3⟩; obtain ⟨x, y, T1, T2⟩ := both HT.out HL.out rule least M; have T1 := Lib.hid T1; have T2 := Lib.hid T2))
      | (go_at_call 13; ((with_reducible refine (T1.out _ _ hb3 hM).mono ?_); rintro e w4 ⟨rfl, hb4⟩; have hb34 := bel2' hb3 hb4; have hM4 := hM.keep hb4))
      | (go_at_call 14; ((with_reducible refine (T2.out _ _ hb34 hM4).mono ?_); rintro e w5 ⟨rfl, hb5⟩; have hb35 := bel2' hb34 hb5))
      | (go_at_call 8; ((with_reducible refine (AW.out _).mono ?_); rintro e w6 ⟨rfl, hb6⟩; have hb36 := bel2' hb35 hb6))
      | (go_at_call 15; ((with_reducible refine (V1.out _ hb36).mono ?_); rintro e w7 ⟨rfl, hb7⟩; have hb37 := bel2' hb36 hb7))
      | (go_at_call 16; ((with_reducible refine (V2.out _ hb37).mono ?_); rintro e w8 ⟨rfl, hb8⟩; have hB8 := bel2' hb37 hb8)))
    go_ret
    exact ⟨rfl, hB8⟩

end Go.Proofs.Ythplbhgbgcfogaa
