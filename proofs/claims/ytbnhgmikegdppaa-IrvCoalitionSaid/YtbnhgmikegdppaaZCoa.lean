/- The statement IrvCoalition: for every input the law returns true and its arguments read as before. No condition. -/
import Derived.Test.YtbnhgmikegdppaaQO
import Derived.WalkKit
import Derived.ProofKit
import Derived.OpenShut
import Derived.ShutString
import Derived.ChangeOld
import Derived.Below
/- IrvCoalition: the plain law, Set and Solid. -/
namespace Go.Proofs.Nums

theorem find_app {R : Int → Bool} {a b : List Int} : (a ++ b).find? R = (a.find? R).or (b.find? R) := List.find?_append
theorem fold_find {n : Nat} {R : Int → Bool} : ∀ {l out : List Int}, out.Nodup → (∀ x ∈ out, 0 ≤ x ∧ x < (n : Int)) → (∀ x ∈ l, 0 ≤ x ∧ x < (n : Int)) → (l.foldl (ballotStep n) out).find? R = (out ++ l).find? R
  | [], out, _, _, _ => by rw [List.append_nil]; rfl
  | y :: l, out, hn, ho, hl => by
    have hy := hl y (List.mem_cons_self ..)
    have hm : y % (n : Int) = y := Int.emod_eq_of_lt hy.1 hy.2
    have hl' : ∀ x ∈ l, 0 ≤ x ∧ x < (n : Int) := fun x hx => hl x (List.mem_cons_of_mem _ hx)
    rw [List.foldl_cons]
    have skip : y ∈ out → (l.foldl (ballotStep n) out).find? R = (out ++ y :: l).find? R := fun hyo => by
      rw [fold_find hn ho hl', find_app, find_app]
      cases e : out.find? R with
      | some z => rfl
      | none =>
        have : R y = false := by
          have := List.find?_eq_none.1 e y hyo
          simpa using this
        rw [List.find?_cons_of_neg (by rw [this]; simp)]
    unfold ballotStep
    rw [hm]
    by_cases hh : hasB out y = false
    · by_cases hlen : (out.length : Int) < (n : Int)
      · rw [if_pos ⟨hlen, hh⟩]
        have hyo := hasB_false.1 hh
        have e : out ++ y :: l = (out ++ [y]) ++ l := by simp
        have h2 := fold_find (R := R) (l := l) (out := out ++ [y]) (List.nodup_append.2 ⟨hn, by simp, fun a ha b hb => by
          rw [List.mem_singleton] at hb
          rintro rfl
          exact hyo (hb ▸ ha)⟩) (fun x hx => by
          rcases List.mem_append.1 hx with hx | hx
          · exact ho x hx
          · rw [List.mem_singleton] at hx
            rw [hx]; exact hy) hl'
        unfold ballotStep at h2
        rw [e]
        exact h2
      · have hyo : y ∈ out := by
          have h2 := nodup_len n out hn ho
          exact bal_mem (l := out) ⟨fun c hc => by have := ho c hc; omega, hn⟩ hy.1 (by omega)
        have h3 := skip hyo
        unfold ballotStep at h3
        rw [if_neg (by omega)]
        exact h3
    · have hyo : y ∈ out := hasB_true.1 (by cases e : hasB out y with | true => rfl | false => exact absurd e hh)
      have h3 := skip hyo
      unfold ballotStep at h3
      rw [if_neg (fun h => hh h.2)]
      exact h3
theorem ballot_find {n : Nat} {R : Int → Bool} {l : List Int} (hl : ∀ x ∈ l, 0 ≤ x ∧ x < (n : Int)) : firstC R (ballotS n l) = firstC R l := by
  unfold firstC ballotS
  rw [fold_find List.nodup_nil (fun x hx => by simp at hx) hl]
  rfl
/-- The ballot of one that ranks all of the set first. -/
def Sol (A : List Int) (p : List Int) : Prop := ∀ (R : Int → Bool) (a : Int), hasB A a = true → R a = true → (∀ b, hasB A b = true → R b = true → b = a) → 0 ≤ a → firstC R p = a
def solidS (n : Nat) (A b : List Int) : List Int := ballotS n ((b.filter (hasB A) ++ A) ++ b)
theorem solid_sol {n : Nat} {A b : List Int} (hA : ∀ x ∈ A, 0 ≤ x ∧ x < (n : Int)) (hb : ∀ x ∈ b, 0 ≤ x ∧ x < (n : Int)) : Sol A (solidS n A b) := by
  intro R a ha hR hu h0
  unfold solidS
  rw [ballot_find (fun x hx => by
    rcases List.mem_append.1 hx with hx | hx
    · rcases List.mem_append.1 hx with hx | hx
      · exact hb x (List.mem_filter.1 hx).1
      · exact hA x hx
    · exact hb x hx)]
  have hne : a ≠ -1 := by omega
  rw [first_iff hne, find_app, find_app]
  cases e : (b.filter (hasB A)).find? R with
  | some z =>
    have hz := List.mem_of_find?_eq_some e
    have hzr := List.find?_some e
    rw [hu z (List.mem_filter.1 hz).2 hzr]
    rfl
  | none =>
    cases e2 : A.find? R with
    | some z =>
      have hz := List.mem_of_find?_eq_some e2
      have hzr := List.find?_some e2
      rw [hu z (hasB_true.2 hz) hzr]
      rfl
    | none =>
      have := List.find?_eq_none.1 e2 a (hasB_true.1 ha)
      exact absurd hR this
noncomputable def solB (A p : List Int) : Bool := @decide (Sol A p) (Classical.propDecidable _)
theorem solB_true {A p : List Int} : solB A p = true ↔ Sol A p := by unfold solB; exact @decide_eq_true_iff _ (Classical.propDecidable _)
theorem countP_all {α : Type} {f : α → Bool} {l : List α} (h : ∀ a ∈ l, f a = true) : l.countP f = l.length := List.countP_eq_length.2 h
theorem coalition {n : Nat} {A : List Int} {l s : List (List Int)} (hA : A ≠ []) (hAr : ∀ x ∈ A, 0 ≤ x ∧ x < (n : Int)) (hs : ∀ b ∈ s, Sol A b) (hl : l.length < s.length) {x : Int} (h : Rch n (makeS (l ++ s)) (single x)) : hasB A x = true := by
  have hm : markedS (makeS (l ++ s)) < 2 * sumF (solB A) (makeS (l ++ s)) := by
    unfold markedS
    rw [make_sum, make_sum, List.countP_append, List.countP_append, countP_all (l := s) (f := solB A) (fun b hb => solB_true.2 (hs b hb))]
    have h1 : l.countP (fun p => !p.isEmpty) ≤ l.length := List.countP_le_length
    have h2 : s.countP (fun p => !p.isEmpty) ≤ s.length := List.countP_le_length
    omega
  obtain ⟨a, ha, hx⟩ := solid_stays (make_pos _) (A := hasB A) (f := solB A) (by
    cases A with
    | nil => exact absurd rfl hA
    | cons a t => exact ⟨a, hasB_true.2 (List.mem_cons_self ..), hAr a (List.mem_cons_self ..)⟩) (fun g _ hf R a ha hR hu h0 => solB_true.1 hf R a ha hR hu h0) hm h
  have e : a = x := of_decide_eq_true hx
  rw [← e]; exact ha
theorem poss_ne {n : Nat} {gs : List Grp} (h1 : 1 ≤ n) (h7 : n ≤ 7) : possS n gs ≠ [] := by
  obtain ⟨w, _, hr⟩ := order_can (brk := brkS 3 (permS n 0)) (gs := gs) (n := (n : Int)) n (List.replicate n true) [] (by rw [List.length_replicate]; exact brk_in ⟨perm_bal n 0, perm_len n 0⟩ (by omega) (by omega) h1 h7) (by rw [alive_all_len]; exact Nat.le_refl _) (fun e => by have := alive_all_len n; rw [e] at this; simp at this; omega) (by rw [rem_full]; exact Rch.full)
  have hw := hr.range w (by unfold single; simp)
  exact List.ne_nil_of_mem (mem_poss.2 ⟨hw.1, hw.2, hr⟩)

end Go.Proofs.Nums
namespace Go.Proofs.Ytbnhgmikegdppaa
open Go.RowKit Go.Proofs.Kit Go.Proofs.Nums

theorem shr_bit : ∀ z < 128, ∀ k < 7, (bits BinOp.and IntKind.i64 (((z : Nat) : Int) / 2 ^ k) 1 == 1) = z.testBit k := and_bit

set_option maxHeartbeats 2000000 in
theorem set_c (n : Nat) (h1 : 1 ≤ n) (h7 : n ≤ 7) (b : Int) (w : World) :
    Calls Try.prog 37 #[.int .i64 n, .int .i64 b] w fun e w' => ∃ v' S, e = .returned v' ∧ IntsAt w' v' S ∧ S ≠ [] ∧ S.length ≤ 7 ∧ (∀ x ∈ S, 0 ≤ x ∧ x < (n : Int)) ∧ Below w.heap.size w w' := by
  obtain ⟨z, hz⟩ : ∃ z : Nat, b % 128 = z := ⟨(b % 128).toNat, by omega⟩
  have hz7 : z < 128 := by omega
  have MD : Hid (∀ w, Calls Try.prog 16 #[.int .i64 b, .int .i64 128] w fun e w' => e = .returned (.int .i64 z) ∧ w = w') := Lib.hid (fun w => by rw [← hz]; exact mod_c b 128 (by omega) (by omega) w)
  clear hz
  go_enter Try.func37, Try.ntmps37
  go_wp2_with fail
  go_loopw [5, 6] (fun ov iv wr => ∃ k m : Nat, ∃ S : List Int, k ≤ n ∧ m ≤ k ∧ iv = .int .i64 k ∧ wr.ownsRow w.heap.size 3 1 ov m (S.map (Value.int .i64)) ∧ Hid (∀ x ∈ S, 0 ≤ x ∧ x < (k : Int)) ∧ Below w.heap.size w wr) (fun _ iv _ => n - (intOf iv).toNat)
  case atStart => exact ⟨0, 0, [], by omega, by omega, rfl, (World.ownsRow_nil _ _ _ _ : w.ownsRow w.heap.size 3 1 (.slice none 0 0) 0 []), Lib.hid (fun x hx => by simp at hx), Below.refl _ _⟩
  case round =>
    obtain ⟨k, m, S, hk, hm, rfl, hown, hS, hbel⟩ := hrel
    by_cases hlt : k < n
    · have hltz : (k : Int) < (n : Int) := by omega
      have hbit := shr_bit z hz7 k (by omega)
      have hwu : IntKind.u64.wrap (k : Int) = k := wu64 (by omega) (by omega)
      cases ht : z.testBit k
      · rw [ht] at hbit
        clear ht
        have HS2 : Hid (∀ x ∈ S, 0 ≤ x ∧ x < ((k + 1 : Nat) : Int)) := Lib.hid (fun x hx => by have := hS.out x hx; omega)
        go_wp2_with (go_at_call 16; ((with_reducible refine (MD.out _).mono ?_); rintro _ _ ⟨rfl, rfl⟩))
        go_roundw
        case rel => exact ⟨k + 1, m, S, by omega, by omega, by go_num, hown, HS2, hbel⟩
        case measure => simp [intOf] <;> omega
      · rw [ht] at hbit
        clear ht
        have HS2 : Hid (∀ x ∈ S ++ [(k : Int)], 0 ≤ x ∧ x < ((k + 1 : Nat) : Int)) := Lib.hid (fun x hx => by
          rcases List.mem_append.1 hx with hx | hx
          · have := hS.out x hx; omega
          · rw [List.mem_singleton] at hx; omega)
        go_wp2_with (first
          | (go_at_call 16; ((with_reducible refine (MD.out _).mono ?_); rintro _ _ ⟨rfl, rfl⟩))
          | (at_builtin; go_must (refine append_one erI rfl rfl hown rfl rfl rfl (by simp [Value.oneCell']) (by omega) (by omega) hbel.size ?_); intro v' w1 hown1 _ hb1 hne1))
        go_roundw
        case rel => exact ⟨k + 1, m + 1, S ++ [(k : Int)], by omega, by omega, by go_num, by rw [List.map_append]; exact hown1, HS2, hbel.trans hb1⟩
        case measure => simp [intOf] <;> omega
    · obtain rfl : n = k := by omega
      have hml := hown.1
      rw [List.length_map, Nat.mul_one] at hml
      obtain ⟨p, c, rfl, _, _⟩ := own_shp hown
      have HI : Hid (IntsAt wr (.slice p m c) S) := Lib.hid (ints_owned hown)
      have HML := Lib.hid hml
      clear hown hml
      by_cases hm0 : m = 0
      · subst hm0
        have rl := row_lit wr [0] (by decide)
        go_wp2_with fail
        go_ret
        exact ⟨_, [0], rfl, rl, by simp, by simp, fun x hx => by rw [List.mem_singleton] at hx; omega, below_al hbel _⟩
      · have hmz : ((m : Int) == 0) = false := by rw [beq_eq_false_iff_ne]; omega
        go_wp2_with fail
        go_ret
        exact ⟨_, S, rfl, HI.out, fun e => by have := HML.out; rw [e] at this; simp at this; omega, by have := HML.out; omega, hS.out, hbel⟩

set_option maxRecDepth 100000 in
set_option maxHeartbeats 8000000 in
theorem solid_c {vs vb : Value} {S : List Int} {L : List (List Int)} {n : Nat} {w : World} (hs : IntsAt w vs S) (hv : GridAt w vb L) (h1 : 1 ≤ n) (h7 : n ≤ 7) (hS7 : S.length ≤ 7) (hb : ∀ b ∈ L, b.length ≤ 7) (hl : L.length ≤ 41) :
    Calls Try.prog 38 #[.int .i64 n, vs, vb] w fun e w' => ∃ v', e = .returned v' ∧ (∃ css, ILst w.heap.size v' w' (L.map (solidS n S)) css) ∧ Below w.heap.size w w' := by
  have HV := Lib.hid hv
  have HS := Lib.hid hs
  have HB := Lib.hid hb
  have HOs := Lib.hid (ints_one S)
  obtain ⟨p, c, rfl⟩ := hv.shp
  obtain ⟨ps, cs, rfl⟩ := hs.shape
  obtain ⟨len, hlen⟩ : ∃ n, L.length = n := ⟨_, rfl⟩
  obtain ⟨ns, hns⟩ : ∃ n, S.length = n := ⟨_, rfl⟩
  have HN := Lib.hid hlen
  have HNS := Lib.hid hns
  rw [hlen] at HV hl ⊢
  rw [hns] at HS hS7 ⊢
  clear hv hs hb hlen hns
  go_enter Try.func38, Try.ntmps38
  go_wp2_with fail
  go_loopw [7, 8] (fun ov iv wr => ∃ k : Nat, ∃ M css, k ≤ len ∧ M.length = k ∧ iv = .int .i64 k ∧ Below w.heap.size w wr ∧ Hid (ILst w.heap.size ov wr M css) ∧ Hid (M = (L.take k).map (solidS n S))) (fun _ iv _ => len - (intOf iv).toNat)
  case atStart => exact ⟨0, [], [], by omega, rfl, rfl, Below.refl _ _, Lib.hid (Lst.nil _), Lib.hid rfl⟩
  case round =>
    obtain ⟨k, M, css, hk, hM, rfl, hbel, hL, hE⟩ := hrel
    obtain ⟨wo, rfl⟩ : ∃ x, x = wr := ⟨_, rfl⟩
    by_cases hlt : k < len
    · have hltz : (k : Int) < (len : Int) := by omega
      obtain ⟨b, hbk⟩ : ∃ b, L.getD k [] = b := ⟨_, rfl⟩
      obtain ⟨bb, off, u, hp0, hc1, hc2, hcell, hrow⟩ := (HV.out.keep hbel).cellAt (by rw [HN.out]; exact hlt) hbk
      subst hp0
      have hbm : b ∈ L := by
        rw [← hbk, List.getD_eq_getElem?_getD, List.getElem?_eq_getElem (by rw [HN.out]; exact hlt)]
        exact List.getElem_mem _
      have hb7 := HB.out b hbm
      have hsn := take_snoc_l (by rw [HN.out]; exact hlt) hbk
      have HSN : Hid ((L.take (k + 1)).map (solidS n S) = M ++ [solidS n S b]) := Lib.hid (by rw [hsn, List.map_append, hE.out]; rfl)
      have HR := Lib.hid hrow
      have HOb := Lib.hid (ints_one b)
      obtain ⟨q, d, rfl⟩ := hrow.shape
      obtain ⟨bl, hblq⟩ : ∃ n, b.length = n := ⟨_, rfl⟩
      have HBL := Lib.hid hblq
      rw [hblq] at hb7 HR hcell
      have HSo := Lib.hid (HS.out.keep hbel)
      have HLr := Lib.hid hL.out
      have HCE := Lib.hid hcell
      clear hbk hrow hbm hsn hblq hcell
      go_wp2_with fail
      go_loopw [9, 10] (fun pv jv wq => ∃ j m : Nat, j ≤ bl ∧ m ≤ j ∧ jv = .int .i64 j ∧ wq.ownsRow wo.heap.size 3 1 pv m (((b.take j).filter (hasB S)).map (Value.int .i64)) ∧ Below wo.heap.size wo wq) (fun _ jv _ => bl - (intOf jv).toNat)
      case atStart => exact ⟨0, 0, by omega, by omega, rfl, (World.ownsRow_nil _ _ _ _ : wo.ownsRow wo.heap.size 3 1 (.slice none 0 0) 0 []), Below.refl _ _⟩
      case round =>
        obtain ⟨j, m, hj, hm, rfl, hown, hbq⟩ := hrel
        have hcellk := cell_keep hbq HCE.out
        by_cases hjl : j < bl
        · have hjz : (j : Int) < (bl : Int) := by omega
          obtain ⟨b2, o2, e2, _, _, hcy⟩ := (HR.out.keep hbq).cellAt j (by rw [HBL.out]; exact hjl)
          subst e2
          obtain ⟨y, hy⟩ : ∃ y, b.getD j 0 = y := ⟨_, rfl⟩
          rw [hy] at hcy
          have hfs := filter_snoc_i (f := hasB S) (by rw [HBL.out]; exact hjl) hy
          have HA : Hid (Calls Try.prog 21 #[.slice ps ns cs, .int .i64 y] wr fun e w' => e = .returned (.bool (hasB S y)) ∧ wr = w') := Lib.hid (has_c (HSo.out.keep hbq) y)
          cases hh : hasB S y
          · rw [hh] at HA hfs
            have HF : Hid ((b.take (j + 1)).filter (hasB S) = (b.take j).filter (hasB S)) := Lib.hid (by rw [hfs]; simp)
            clear hh hfs hy
            go_wp2_with (go_at_call 21; ((with_reducible refine HA.out.mono ?_); rintro _ _ ⟨rfl, rfl⟩))
            go_roundw
            case rel => exact ⟨j + 1, m, by omega, by omega, by go_num, by rw [HF.out]; exact hown, hbq⟩
            case measure => simp [intOf] <;> omega
          · rw [hh] at HA hfs
            have HF : Hid ((b.take (j + 1)).filter (hasB S) = (b.take j).filter (hasB S) ++ [y]) := Lib.hid (by rw [hfs]; simp)
            clear hh hfs hy
            go_wp2_with (first
              | (go_at_call 21; ((with_reducible refine HA.out.mono ?_); rintro _ _ ⟨rfl, rfl⟩))
              | (at_builtin; go_must (refine append_one erI rfl rfl hown rfl rfl rfl (by simp [Value.oneCell']) (by omega) (by omega) hbq.size ?_); intro v' w1 hown1 _ hb1 hne1))
            go_roundw
            case rel => exact ⟨j + 1, m + 1, by omega, by omega, by go_num, by rw [HF.out, List.map_append]; exact hown1, hbq.trans hb1⟩
            case measure => simp [intOf] <;> omega
        · obtain rfl : bl = j := by omega
          obtain ⟨pp, cp, rfl, _, _⟩ := own_shp hown
          rw [List.take_of_length_le (by rw [HBL.out]; exact Nat.le_refl _)] at hown
          obtain ⟨xs, hxs⟩ : ∃ xs, (b.filter (hasB S)).map (Value.int .i64) = xs := ⟨_, rfl⟩
          rw [hxs] at hown
          have HXS := Lib.hid hxs
          have hownd := Lib.hid (ownsRow_below hown (Below.refl wr.heap.size wr).drew)
          have hbd : Below wo.heap.size wo wr.drew := hbq.drew
          have hbs := hbq.size
          have lS : (S.map (Value.int .i64)).length = ns := by rw [List.length_map, HNS.out]
          have lB : (b.map (Value.int .i64)).length = bl := by rw [List.length_map, HBL.out]
          obtain ⟨cS, hcS⟩ : ∃ cS, S.map (Value.int .i64) = cS := ⟨_, rfl⟩
          obtain ⟨cB, hcB⟩ : ∃ cS, b.map (Value.int .i64) = cS := ⟨_, rfl⟩
          have RS : Hid (∀ wq, Below wo.heap.size wo wq → RowAt wq (.slice ps ns cs) cS) := Lib.hid (fun wq h => by rw [← hcS]; exact HSo.out.keep h)
          have RB : Hid (∀ wq, Below wo.heap.size wo wq → RowAt wq (.slice q bl d) cB) := Lib.hid (fun wq h => by rw [← hcB]; exact HR.out.keep h)
          have HCS := Lib.hid (show (∀ u ∈ cS, u.oneCell' = true) from by rw [← hcS]; exact HOs.out)
          have HCB := Lib.hid (show (∀ u ∈ cB, u.oneCell' = true) from by rw [← hcB]; exact HOb.out)
          have HBC : Hid (∀ wq v, wq.ownsRow wo.heap.size 3 1 v (m + cS.length + cB.length) (xs ++ cS ++ cB) → Calls Try.prog 66 #[.int .i64 n, v] wq fun e w' => ∃ q1 m1 d1, e = .returned (.slice q1 m1 d1) ∧ Made wq.heap.size (fun w => rowI w [.slice q1 m1 d1] (solidS n S b)) w' ∧ Below wq.heap.size wq w') := Lib.hid (fun wq v h => by
            have hi : IntsAt wq v ((b.filter (hasB S) ++ S) ++ b) := by
              have := RowAt.owned h
              rw [← HXS.out, ← hcS, ← hcB, ← List.map_append, ← List.map_append] at this
              exact this
            refine (mballot_c hi n (by omega) (by omega)).mono ?_
            rintro e w' ⟨v', rfl, g1, g2, g3⟩
            obtain ⟨q1, d1, rfl⟩ := g1.shape
            exact ⟨_, _, _, rfl, (RowAt.made g1 g2).imp fun _ g => ⟨_, rfl, g⟩, g3⟩)
          rw [hcS] at lS
          rw [hcB] at lB
          clear hxs hcS hcB hown
          go_wp2_with fail
          go_region_law (first
            | (refine step_append_lst erRI (by rfl) (by rfl) (HLr.out.keep (bal (hbo2.trans hb3') _)) (by rfl) (by rfl) (c := [.slice q1 m1 d1]) (fun j u h => alloc_cell _ _ _ _ j u (by simpa using h)) (by rfl) (by simp [Value.oneCell']) (by omega) (by omega) (Nat.le_trans (bel2' hbel (hbo2.trans hb3')).size (by simp)) (y := solidS n S b) (Lst.fresh_elt (HLr.out.keep hbo2) (hm3.keep (bal (Below.refl _ _) _)) (bel2' hbel hbo2).size) ?_; intro v' w5 hL5 hb5 _ _; have HL5 := Lib.hid hL5; have hB5 := (bal (bel2' hbel (hbo2.trans hb3')) _).trans hb5; clear hL5)
            | (refine step_append_read erI (by rfl) (by rfl) hown1 (by rfl) (xv := .slice q bl d) (RB.out _ hbo1) (by rfl) HCB.out (by rw [lS, lB]; omega) (by rw [lS, lB]; omega) hbo1.size ?_; intro v2 w2 hown2 hb2; have hbo2 := hbo1.trans hb2)
            | (refine step_append_read erI (by rfl) (by rfl) hownd.out (by rfl) (xv := .slice ps ns cs) (RS.out _ hbd) (by rfl) HCS.out (by rw [lS]; omega) (by rw [lS]; omega) hbd.size ?_; intro v1 w1 hown1 hb1; have hbo1 := hbd.trans hb1; have hcell1 := cell_keep hbo1 HCE.out)
            | (go_simp; go_wp2_with (go_at_call 66; ((with_reducible refine (HBC.out _ _ hown2).mono ?_); rintro e w3 ⟨q1, m1, d1, rfl, hm3, hb3⟩; have hb3' : Below wo.heap.size w2 w3 := hb3.mono hbo2.size))))
          all_goals
            go_wp2_with fail
            go_roundw
            case rel => exact ⟨k + 1, _, _, by omega, by simp [hM], by go_num, hB5, HL5, Lib.hid HSN.out.symm⟩
            case measure => simp [intOf] <;> omega
    · obtain rfl : len = k := by omega
      have hltz : ¬ (len : Int) < (len : Int) := by omega
      have HX : Hid (M = L.map (solidS n S)) := Lib.hid (by rw [hE.out, List.take_of_length_le (by rw [HN.out]; exact Nat.le_refl _)])
      go_wp2_with fail
      go_ret
      exact ⟨_, rfl, ⟨css, by rw [← HX.out]; exact hL.out⟩, hbel⟩

end Go.Proofs.Ytbnhgmikegdppaa

/- IrvCoalition: the walk. -/
namespace Go.Proofs.Ytbnhgmikegdppaa
open Go.RowKit Go.Proofs.Kit Go.Proofs.Nums

theorem ILst.cellOn {B : Nat} {v : Value} {w : World} {M : List (List Int)} {css : List (List Value)} (h : ILst B v w M css) {k : Nat} (hk : k < M.length) {q : List Int} (hq : M.getD k [] = q) :
    ∃ g cap u, v = .slice (some ⟨g, 0, none⟩) M.length cap ∧ M.length ≤ cap ∧ cap ≤ 9223372036854775807 ∧ B ≤ g ∧ g < w.heap.size ∧ w.cell? ⟨g, k, none⟩ = some u ∧ On (fun b => B ≤ b ∧ b < w.heap.size) (fun w => rowI w [u] q) w := by
  have hkc : k < css.length := by rw [h.len]; exact hk
  have hc := List.getElem?_eq_getElem hkc
  have hlen := h.siz _ (List.getElem_mem hkc)
  obtain ⟨u, hu⟩ := List.length_eq_one_iff.1 hlen
  rw [hu] at hc
  have hx : M[k]? = some q := by
    rw [← hq, List.getD_eq_getElem?_getD, List.getElem?_eq_getElem hk]; rfl
  have hel := h.elt k [u] q hc hx
  have hlt := h.lt
  rcases h.own.2 with ⟨_, hn⟩ | ⟨g, cap, cur, rfl, hg, hgg, hcc, hm, hs, ht⟩
  · omega
  · have hl := hlt g rfl
    refine ⟨g, cap, u, rfl, hcc, by unfold maxLen at hm; omega, hl.1, hl.2, ?_, On.mono hel fun b hb => ⟨hb.1, hb.2.1⟩⟩
    have hf := flat_at (j := 0) h.siz hc rfl
    rw [cell_of_row w g k cur 28 (0, 0) hgg]
    rw [← ht, List.getElem?_take] at hf
    split at hf
    · simpa using hf
    · simp at hf

set_option maxHeartbeats 1000000 in
theorem coal_few (n bits : Int) {v1 v2 : Value} {L1 L2 : List (List Int)} {w : World} (hv1 : GridAt w v1 L1) (hv2 : GridAt w v2 L2) (hf : fewB L1 = false ∨ fewB L2 = false) :
    Calls Try.prog 8 #[.int .i64 n, v1, v2, .int .i64 bits] w fun e w' => e = .returned (.bool true) ∧ Below w.heap.size w w' := by
  have FW1 := few_c hv1
  have FW2 := few_c hv2
  cases h1 : fewB L1 with
  | false =>
    rw [h1] at FW1
    have FW1 := Lib.hid FW1
    clear hv1 hv2 hf FW2 h1
    go_enter Try.func8, Try.ntmps8
    go_wp2_with (first
      | (go_at_call 11; ((with_reducible refine FW1.out.mono ?_); rintro _ w1 ⟨rfl, rfl⟩))
      | (go_at_call 12; ((with_reducible refine (awake26 _).mono ?_); rintro _ w2 ⟨rfl, hb2⟩)))
    go_ret
    exact ⟨rfl, hb2⟩
  | true =>
    have h2 : fewB L2 = false := by
      rcases hf with h | h
      · rw [h1] at h; simp at h
      · exact h
    rw [h1] at FW1
    rw [h2] at FW2
    have FW1 := Lib.hid FW1
    have FW2 := Lib.hid FW2
    clear hv1 hv2 hf h1 h2
    go_enter Try.func8, Try.ntmps8
    go_wp2_with (first
      | (go_at_call 11; ((with_reducible refine FW1.out.mono ?_); rintro _ w1 ⟨rfl, rfl⟩))
      | (go_at_call 11; ((with_reducible refine FW2.out.mono ?_); rintro _ w1 ⟨rfl, rfl⟩))
      | (go_at_call 12; ((with_reducible refine (awake26 _).mono ?_); rintro _ w2 ⟨rfl, hb2⟩)))
    go_ret
    exact ⟨rfl, hb2⟩

/-- What the loop appends. -/
def solTo (sol : List (List Int)) (i : Nat) : List (List Int) := (List.range i).map fun j => sol.getD (j % sol.length) []
theorem solTo_step (sol : List (List Int)) (i : Nat) : solTo sol (i + 1) = solTo sol i ++ [sol.getD (i % sol.length) []] := by
  unfold solTo
  rw [List.range_succ, List.map_append]
  rfl
theorem solTo_len (sol : List (List Int)) (i : Nat) : (solTo sol i).length = i := by unfold solTo; simp
theorem solTo_mem {sol : List (List Int)} {i : Nat} {P : List Int → Prop} (h0 : 0 < sol.length) (h : ∀ b ∈ sol, P b) : ∀ b ∈ solTo sol i, P b := by
  intro b hb
  unfold solTo at hb
  obtain ⟨j, _, rfl⟩ := List.mem_map.1 hb
  have hj := Nat.mod_lt j h0
  rw [List.getD_eq_getElem?_getD, List.getElem?_eq_getElem hj]
  exact h _ (List.getElem_mem hj)

set_option maxRecDepth 100000 in
set_option maxHeartbeats 8000000 in
theorem walk_IrvCoalition (n : Int) {v1 v2 : Value} {L1 L2 : List (List Int)} {w : World} (hv1 : GridAt w v1 L1) (hv2 : GridAt w v2 L2) (bits : Int) :
    Calls Try.prog 8 #[.int .i64 n, v1, v2, .int .i64 bits] w fun e w' => e = .returned (.bool true) ∧ Below w.heap.size w w' := by
  cases hf1 : fewB L1 with
  | false => exact coal_few n bits hv1 hv2 (.inl hf1)
  | true =>
  cases hf2 : fewB L2 with
  | false => exact coal_few n bits hv1 hv2 (.inr hf2)
  | true =>
  obtain ⟨g1, g2⟩ := few_true.1 hf1
  obtain ⟨g3, g4⟩ := few_true.1 hf2
  have FW1 := few_c hv1
  rw [hf1] at FW1
  have FW1 := Lib.hid FW1
  have FW2 := few_c hv2
  rw [hf2] at FW2
  have FW2 := Lib.hid FW2
  obtain ⟨k, hk, k1, k7⟩ := mod_one n 7 (by omega)
  obtain ⟨z, hz⟩ : ∃ z, n % ((7 : Nat) : Int) = z := ⟨_, rfl⟩
  rw [hz] at hk
  have M7 : Hid (∀ w, Calls Try.prog 16 #[.int .i64 n, .int .i64 7] w fun e w' => e = .returned (.int .i64 z) ∧ w = w') := Lib.hid (fun w => by rw [← hz]; exact mod_c n 7 (by omega) (by omega) w)
  have e2 : IntKind.i64.wrap (k : Int) = k := w64 (by omega) (by omega)
  have SE := Lib.hid (fun wq => set_c k k1 k7 bits wq)
  have B1 := Lib.hid (fun wq (h : Below w.heap.size w wq) => mballots_c (hv1.keep h) k1 k7 g1 g2)
  have B2 := Lib.hid (fun wq (h : Below w.heap.size w wq) => mballots_c (hv2.keep h) k1 k7 g3 g4)
  obtain ⟨p1, c1, rfl⟩ := hv1.shp
  obtain ⟨p2, c2, rfl⟩ := hv2.shp
  obtain ⟨bl, hbl⟩ : ∃ b, L1.length = b := ⟨_, rfl⟩
  have hm1 : (L1.map (ballotS k)).length = bl := by rw [List.length_map, hbl]
  have hm2 : (L2.map (ballotS k)).length = L2.length := by rw [List.length_map]
  have hm1b : ∀ b ∈ L1.map (ballotS k), BalP k b := fun b hb => by
    obtain ⟨l, _, rfl⟩ := List.mem_map.1 hb
    exact ballot_bal k1 l
  have hm2b : ∀ b ∈ L2.map (ballotS k) ++ [[]], BalP k b := fun b hb => by
    rcases List.mem_append.1 hb with hb | hb
    · obtain ⟨l, _, rfl⟩ := List.mem_map.1 hb
      exact ballot_bal k1 l
    · rw [List.mem_singleton] at hb
      subst hb
      exact ⟨fun c hc => by simp at hc, List.nodup_nil⟩
  obtain ⟨M1, hM1⟩ : ∃ M, L1.map (ballotS k) = M := ⟨_, rfl⟩
  obtain ⟨M2, hM2⟩ : ∃ M, L2.map (ballotS k) = M := ⟨_, rfl⟩
  rw [hM1] at B1 hm1 hm1b
  rw [hM2] at B2 hm2 hm2b
  have hM2l : (M2 ++ [[]]).length ≤ 41 := by rw [List.length_append, hm2]; simp; omega
  have hM2p : 0 < (M2 ++ [([] : List Int)]).length := by rw [List.length_append]; simp
  have hM2r : ∀ b ∈ M2 ++ [[]], b.length ≤ 7 := fun b hb => Nat.le_trans (nodup_len k b (hm2b b hb).2 (hm2b b hb).1) k7
  have hM240 : M2.length ≤ 40 := by omega
  rw [hbl] at B1 FW1 g2 ⊢
  have MM1 := Lib.hid hm1
  have HM1B := Lib.hid hm1b
  have HM2B := Lib.hid hm2b
  have HM2R := Lib.hid hM2r
  have HNIL : Hid (∀ w, rowI w [.slice none 0 0] []) := Lib.hid (fun w => ⟨_, rfl, RowAt.nil w⟩)
  clear hz hf1 hf2 hv1 hv2 hbl hM1 hM2 hm1 hm1b hm2b hM2r g1 g3 hm2
  go_enter Try.func8, Try.ntmps8
  go_wp2_with (first
    | (go_at_call 11; ((with_reducible refine FW1.out.mono ?_); rintro _ _ ⟨rfl, rfl⟩))
    | (go_at_call 11; ((with_reducible refine FW2.out.mono ?_); rintro _ _ ⟨rfl, rfl⟩))
    | (go_at_call 16; ((with_reducible refine (M7.out _).mono ?_); rintro _ _ ⟨rfl, rfl⟩))
    | (go_at_call 37; ((with_reducible refine (SE.out _).mono ?_); rintro _ w3 ⟨v3, S, rfl, h3, hSne, hS7, hSr, hb3⟩))
    | (go_at_call 35; ((with_reducible refine (B1.out _ hb3).mono ?_); rintro _ w4 ⟨v4, rfl, ⟨css4, h4⟩, hb4⟩; have b4 := bel2' hb3 hb4))
    | (go_at_call 35; ((with_reducible refine (B2.out _ b4).mono ?_); rintro _ w5 ⟨v5, rfl, ⟨css5, h5⟩, hb5⟩; have b5 := bel2' b4 hb5))
    | (at_builtin; go_must (refine append_lst erRI rfl rfl h5 rfl rfl rfl (by simp [Value.oneCell']) (by omega) (by omega) hb5.size (fun w' _ => HNIL.out w') ?_); intro v6 w6 h6 hb6 hg6 hv6; have hb46 : Below w4.heap.size w4 w6 := hb5.trans hb6; have hgr6 : GridAt w6 v6 (M2 ++ [[]]) := h6.slice)
    | (go_at_call 38; ((with_reducible refine (solid_c (S := S) (L := M2 ++ [[]]) (h3.keep (bel2' hb4 hb46)) hgr6 k1 k7 hS7 HM2R.out hM2l).mono ?_); rintro _ w7 ⟨v7, rfl, ⟨css7, h7⟩, hb7⟩)))
  have hb37 : Below w3.heap.size w3 w7 := bel2' (bel2' hb4 hb46) hb7
  have h47 := Lib.hid (h4.keep (bel2' hb46 hb7))
  have hs34 := hb4.size
  have hs46 := hb46.size
  have hs67 := hb7.size
  have hown4 := h4.lt
  obtain ⟨sol, hsol⟩ : ∃ s, (M2 ++ [[]]).map (solidS k S) = s := ⟨_, rfl⟩
  obtain ⟨sl, hsl⟩ : ∃ n, sol.length = n := ⟨_, rfl⟩
  have hslp : 0 < sl := by rw [← hsl, ← hsol, List.length_map]; exact hM2p
  have hsl41 : sl ≤ 41 := by rw [← hsl, ← hsol, List.length_map]; exact hM2l
  have HSB : Hid (∀ b ∈ sol, BalP k b) := Lib.hid (fun b hb => by
    rw [← hsol] at hb
    obtain ⟨l, _, rfl⟩ := List.mem_map.1 hb
    exact ballot_bal k1 _)
  have HSS : Hid (∀ b ∈ sol, Sol S b) := Lib.hid (fun b hb => by
    rw [← hsol] at hb
    obtain ⟨l, hl, rfl⟩ := List.mem_map.1 hb
    exact solid_sol hSr (HM2B.out l hl).1)
  rw [hsol] at h7
  have HSL := Lib.hid hsl
  have H3 := Lib.hid h3
  have HSNE := Lib.hid hSne
  have HSR := Lib.hid hSr
  obtain ⟨g7, cap7, _, e7, hc71, hc72, hg7a, hg7b, _⟩ := h7.cellOn (k := 0) (by omega) rfl
  rw [hsl] at e7
  subst e7
  have H7 := Lib.hid h7
  obtain ⟨p4, c4, rfl, _, _⟩ := own_shp h4.own
  have HOW : Hid (∀ g, (Value.slice p4 M1.length c4).ownBlock = some g → g < w6.heap.size ∨ w7.heap.size ≤ g) := Lib.hid (fun g e => by have := (hown4 g e).2; omega)
  have hslz : ((sl : Int) == 0) = false := by rw [beq_eq_false_iff_ne]; omega
  clear h4 h5 h6 h7 h3 hb5 hb6 hg6 hv6 hown4 hsol hsl hSne hSr hM2p hM2l
  go_loopw [10, 12] (fun ov iv wr => ∃ i : Nat, ∃ css, i ≤ bl + 1 ∧ iv = .int .i64 i ∧ Hid (ILst w3.heap.size ov wr (M1 ++ solTo sol i) css) ∧ Hid (∀ g, ov.ownBlock = some g → g < w6.heap.size ∨ w7.heap.size ≤ g) ∧ Hid (∀ b, w6.heap.size ≤ b → b < w7.heap.size → wr.heap[b]? = w7.heap[b]?) ∧ w7.heap.size ≤ wr.heap.size ∧ Below w3.heap.size w3 wr) (fun _ iv _ => bl + 1 - (intOf iv).toNat)
  case atStart => exact ⟨0, css4, by omega, rfl, Lib.hid (by show ILst _ _ _ (M1 ++ []) css4; rw [List.append_nil]; exact h47.out), HOW, Lib.hid (fun _ _ _ => rfl), Nat.le_refl _, hb37⟩
  case round =>
    obtain ⟨i, css, hi, rfl, hL, hOw, hFr, hsz, hbel⟩ := hrel
    by_cases hlt : i ≤ bl
    · have hltz : (i : Int) ≤ (bl : Int) := by omega
      obtain ⟨j, hj⟩ : ∃ j, i % sl = j := ⟨_, rfl⟩
      have hjl : j < sl := by rw [← hj]; exact Nat.mod_lt _ hslp
      have hjz : (j : Int) < (sl : Int) := by omega
      have htm : Int.tmod (i : Int) (sl : Int) = (j : Int) := by rw [← hj, Int.ofNat_tmod]
      obtain ⟨r, hr⟩ : ∃ r, sol.getD j [] = r := ⟨_, rfl⟩
      obtain ⟨g7', cap7', u, e7, _, _, _, _, hcu, hon⟩ := H7.out.cellOn (k := j) (by rw [HSL.out]; exact hjl) hr
      simp only [Value.slice.injEq, Option.some.injEq, Addr.mk.injEq] at e7
      obtain ⟨⟨rfl, _⟩, esl, rfl⟩ := e7
      clear esl
      have hcw : wr.cell? ⟨g7, j, none⟩ = some u := by
        rw [World.cell?_of_block (a := ⟨g7, j, none⟩) (hFr.out g7 hg7a hg7b)]
        exact hcu
      have hstep : Hid (M1 ++ solTo sol (i + 1) = (M1 ++ solTo sol i) ++ [r]) := Lib.hid (by rw [solTo_step, HSL.out, hj, hr, List.append_assoc])
      have HE := Lib.hid (On.mono (On.step hon fun b hb => hFr.out b hb.1 hb.2) (G := fun b => w3.heap.size ≤ b ∧ b < wr.heap.size ∧ u10.ownBlock ≠ some b) fun b hb => ⟨by omega, by omega, fun e => by have := hOw.out b e; omega⟩)
      obtain ⟨qu, mu, cu, rfl⟩ : ∃ p n c, u = .slice p n c := by
        obtain ⟨u', e, h⟩ := hon.now
        simp only [List.cons.injEq, and_true] at e
        subst e
        obtain ⟨p, c, e⟩ := IntsAt.shape h
        exact ⟨_, _, _, e⟩
      have hlen : (M1 ++ solTo sol i).length ≤ 1000 := by rw [List.length_append, solTo_len, MM1.out]; omega
      have hLr := Lib.hid hL.out
      have hbs := hbel.size
      clear hr hj hcu hon
      go_wp2_with (at_builtin; go_must (refine append_lst erRI rfl rfl hLr.out rfl rfl rfl (by simp [Value.oneCell']) (by omega) (by omega) hbs HE.out ?_); intro v' w' hL' hb' hg' hv'; have HL' := Lib.hid hL'; clear hL')
      have HO' : Hid (∀ g, v'.ownBlock = some g → g < w6.heap.size ∨ w7.heap.size ≤ g) := Lib.hid (fun g e => by
        rcases hv' with h | ⟨g', h, hg⟩
        · rw [h] at e; exact hOw.out g e
        · rw [h] at e
          simp only [Option.some.injEq] at e
          omega)
      have HF' : Hid (∀ b, w6.heap.size ≤ b → b < w7.heap.size → w'.heap[b]? = w7.heap[b]?) := Lib.hid (fun b h1 h2 => by
        rw [hg'.block b (by omega) (fun e => by have := hOw.out b e.symm; omega)]
        exact hFr.out b h1 h2)
      go_roundw
      case rel => exact ⟨i + 1, _, by omega, by go_num, by rw [hstep.out]; exact HL', HO', HF', Nat.le_trans hsz hb'.size, hbel.trans hb'⟩
      case measure => simp [intOf] <;> omega
    · have hltz : ¬ (i : Int) ≤ (bl : Int) := by omega
      obtain rfl : i = bl + 1 := by omega
      have hgrid := Lib.hid (show GridAt wr u10 (M1 ++ solTo sol (bl + 1)) from hL.out.slice)
      obtain ⟨all, hall⟩ : ∃ a, M1 ++ solTo sol (bl + 1) = a := ⟨_, rfl⟩
      have hallb : ∀ b ∈ all, BalP k b := fun b hb => by
        rw [← hall] at hb
        rcases List.mem_append.1 hb with hb | hb
        · exact HM1B.out b hb
        · exact solTo_mem (by rw [HSL.out]; exact hslp) HSB.out b hb
      have halll : all.length ≤ 100000 := by rw [← hall, List.length_append, solTo_len, MM1.out]; omega
      have HC : Hid (∀ x ∈ possS k (makeS all), hasB S x = true) := Lib.hid (fun x hx => by
        rw [← hall] at hx
        exact coalition HSNE.out HSR.out (solTo_mem (by rw [HSL.out]; exact hslp) HSS.out) (by rw [solTo_len, MM1.out]; omega) (mem_poss.1 hx).2.2)
      rw [hall] at hgrid
      have hpp := make_pile hallb halll
      have MK := Lib.hid (rmake_c hgrid.out k1 k7 hallb halll)
      have PO := Lib.hid (fun wq vg (h : PileAt wq vg (makeS all)) => possible_c h k1 k7 hpp)
      have hpn := poss_ne (gs := makeS all) k1 k7
      have hwl7 : (possS k (makeS all)).length ≤ k := canTo_len k (makeS all) k
      obtain ⟨ws, hws⟩ : ∃ ws, possS k (makeS all) = ws := ⟨_, rfl⟩
      rw [hws] at HC PO hpn hwl7
      have hwp := List.length_pos_iff.2 hpn
      obtain ⟨wl, hwl⟩ : ∃ n, ws.length = n := ⟨_, rfl⟩
      rw [hwl] at hwp hwl7
      have HWL := Lib.hid hwl
      clear hall hallb halll hpp hws hpn hwl
      go_wp2_with (first
        | (go_at_call 36; ((with_reducible refine MK.out.mono ?_); rintro _ w8 ⟨v8, rfl, h8, hb8⟩; have hb38 := bel2' hbel hb8))
        | (go_at_call 14; ((with_reducible refine (PO.out _ _ h8).mono ?_); rintro _ w9 ⟨v9, rfl, h9, _, hb9⟩; have hb39 := bel2' hb38 hb9; obtain ⟨p9, c9, rfl⟩ := h9.shape)))
      rw [HWL.out] at h9 ⊢
      have H9 := Lib.hid h9
      have H39 := Lib.hid (H3.out.keep hb39)
      clear h9
      go_loop [16] (fun jv => ∃ j : Nat, j ≤ wl ∧ jv = .int .i64 j) (fun jv => wl - (intOf jv).toNat)
      case atStart => exact ⟨0, by omega, rfl⟩
      case round =>
        obtain ⟨j, hj, rfl⟩ := hrel
        by_cases hjl : j < wl
        · have hjz : (j : Int) < (wl : Int) := by omega
          obtain ⟨b9, o9, e9, _, _, hc9⟩ := H9.out.cellAt j (by rw [HWL.out]; exact hjl)
          subst e9
          have hHB := HC.out _ (mem_getD (k := j) (by rw [HWL.out]; exact hjl) rfl)
          obtain ⟨y, hy⟩ : ∃ y, ws.getD j 0 = y := ⟨_, rfl⟩
          rw [hy] at hc9 hHB
          have HA : Hid (Calls Try.prog 21 #[v3, .int .i64 y] w9 fun e w' => e = .returned (.bool true) ∧ w9 = w') := Lib.hid (by have := has_c H39.out y; rwa [hHB] at this)
          clear hy hHB
          go_wp2_with (go_at_call 21; ((with_reducible refine HA.out.mono ?_); rintro _ _ ⟨rfl, rfl⟩))
          go_round
          case rel => exact ⟨j + 1, by omega, by go_num⟩
          case measure => simp [intOf] <;> omega
        · obtain rfl : wl = j := by omega
          have hwz : (0 : Int) < (wl : Int) := by omega
          go_wp2_with (go_at_call 12; ((with_reducible refine (awake26 _).mono ?_); rintro _ w10 ⟨rfl, hb10⟩))
          go_ret
          exact ⟨rfl, bel2' (bel2' hb3 hb39) hb10⟩

end Go.Proofs.Ytbnhgmikegdppaa

namespace Go.Proofs.Ytbnhgmikegdppaa.irvCoalition
open Go.ChangeShapes Go.WideShapes Go.ChangeAt Go.RowKit
open Go.ChangeMaps (open_string shut_string)

theorem own : ownKnob Try.prog.godebug = none := by kernel_rfl
theorem laidOut : laidOutB Try.prog = true := by kernel_rfl

set_option maxRecDepth 100000 in
theorem lifted (os : Os) (started : os.Started) (H : Type) (enc : TypeId × Value → H) :
    ReturnsInHanded {} Try.checked os 8 .any (Rows.irvCoalitionSpec.pre6 enc Try.prog Try.f8 Rows.irvCoalitionRow.domain false) (Rows.irvCoalitionSpec.post enc Try.prog Try.f8 false true false false) := by
  refine returnsInHanded_of_change (C := Try.checked) own started (by kernel_rfl) Try.func8
    (ChangeSpec.witness6 (enc := enc) (C := Try.checked) false ⟨#[], #[.int .i64 0, .slice none 0 0, .slice none 0 0, .int .i64 0], []⟩ 8 (by kernel_rfl) (by kernel_rfl) (by kernel_rfl) (by kernel_rfl)) ?_
  intro W base args ds gs before hval0 hW hcnd _
  have hval := hval0
  have hW' := hW
  obtain ⟨p, q, hA0, hV, rfl, hfz, hnd⟩ := hW
  have hA : DataW.TrodAll enc Try.prog W 0 (fun _ => true) true Try.f8.params.toList args.toList ds p := hA0
  rw [Try.params8] at hA hval
  obtain ⟨v0, vs0, d0, ds0, p0, q0, hargs, rfl, rfl, h0, r0⟩ := trodAll_cons hA
  obtain ⟨v1, vs1, d1, ds1, p1, q1, rfl, rfl, rfl, h1, r1⟩ := trodAll_cons r0
  obtain ⟨v2, vs2, d2, ds2, p2, q2, rfl, rfl, rfl, h2, r2⟩ := trodAll_cons r1
  obtain ⟨v3, vs3, d3, ds3, p3, q3, rfl, rfl, rfl, h3, r3⟩ := trodAll_cons r2
  obtain ⟨rfl, rfl, rfl⟩ := trodAll_nil r3
  obtain rfl : args = #[v0, v1, v2, v3] := by cases args; simp_all
  obtain ⟨rfl, rfl⟩ := trodVars_none hV
  obtain ⟨a0, rfl, rfl, rfl, w0⟩ := open_int Try.underlying3 (hval 0 3 v0 rfl rfl) h0
  have lt1 : ∀ x ∈ p1, x.block < W.heap.size := by obtain ⟨m, hm⟩ := h1; exact DataW.trod_lt m _ _ _ hm
  obtain ⟨l1, n1⟩ := grid_open (hval 1 23 v1 rfl rfl) h1
  have lt2 : ∀ x ∈ p2, x.block < W.heap.size := by obtain ⟨m, hm⟩ := h2; exact DataW.trod_lt m _ _ _ hm
  obtain ⟨l2, n2⟩ := grid_open (hval 2 23 v2 rfl rfl) h2
  obtain ⟨a3, rfl, rfl, rfl, w3⟩ := open_int Try.underlying3 (hval 3 3 v3 rfl rfl) h3
  clear hA0 hval0
  refine (walk_IrvCoalition a0 n1 n2 a3).mono fun e W' ⟨he, bel⟩ => ?_
  subst he
  exact ⟨_, rfl, _, _, _, [], _, [], hW', trodAll_mk1 (shut_bool Try.underlying4 _), (trodAll_cons_mk (shut_int Try.underlying3 w0) (trodAll_cons_mk (Below.trod laidOut (by kernel_rfl) (of_decide_eq_true (by kernel_rfl)) h1 bel lt1) (trodAll_cons_mk (Below.trod laidOut (by kernel_rfl) (of_decide_eq_true (by kernel_rfl)) h2 bel lt2) (trodAll_cons_mk (shut_int Try.underlying3 w3) trodAll_mk0)))), rfl, bel.frame _, fun h => by cases h⟩

theorem over : Rows.irvCoalitionRow.holds Try.pinned (OpenSpec.ofChange Rows.irvCoalitionSpec) :=
  OpenClaim.holds_of_wide 8 Try.f8 rfl rfl rfl rfl rfl rfl rfl ⟨rfl, rfl, rfl, rfl, rfl⟩ rfl rfl rfl rfl rfl (by kernel_rfl) Try.func8 (by kernel_rfl)
    (of_decide_eq_true (by kernel_rfl)) (by unfold Func.isWrapper; first | (rw [if_pos (by decide +kernel)]; kernel_rfl) | (rw [if_neg (by decide +kernel)]; exact ⟨rfl, rfl⟩))
    (fun os started H enc _ => lifted os started H enc)

end Go.Proofs.Ytbnhgmikegdppaa.irvCoalition
namespace Go.Proofs.Ytbnhgmikegdppaa
/-- IrvCoalition: the given statement. -/
theorem irvCoalition_proved : Rows.IrvCoalitionSaid := irvCoalition.over
#print axioms irvCoalition_proved
end Go.Proofs.Ytbnhgmikegdppaa
