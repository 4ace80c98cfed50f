/- tie.Valid. -/
import Derived.Test.YthplbhgbgcfogaaT10
namespace Go.Proofs.Ythplbhgbgcfogaa
open Go.RowKit Go.Proofs.Kit Go.Proofs.Nums

/-- The seven flags: which numbers stand in p. -/
def seenV (p : List Int) (j : Nat) : Value := .bool (hasB p j)
def seenA (p : List Int) : Array Value := #[seenV p 0, seenV p 1, seenV p 2, seenV p 3, seenV p 4, seenV p 5, seenV p 6]
theorem seenA_nil : seenA [] = #[.bool false, .bool false, .bool false, .bool false, .bool false, .bool false, .bool false] := rfl
theorem seenA_at (p : List Int) {j : Nat} (h : j < 7) : (seenA p)[j]? = some (.bool (hasB p j)) := by
  rcases (by omega : j = 0 ∨ j = 1 ∨ j = 2 ∨ j = 3 ∨ j = 4 ∨ j = 5 ∨ j = 6) with rfl | rfl | rfl | rfl | rfl | rfl | rfl <;> rfl
theorem hasB_snoc (p : List Int) (y x : Int) : hasB (p ++ [y]) x = (hasB p x || decide (x = y)) := by
  unfold hasB
  by_cases h : x ∈ p <;> by_cases g : x = y <;> simp [h, g]
theorem seenV_snoc (p : List Int) {y j : Nat} : seenV (p ++ [(y : Int)]) j = if j = y then .bool true else seenV p j := by
  unfold seenV
  rw [hasB_snoc]
  by_cases h : j = y
  · subst h; simp
  · rw [if_neg h, decide_eq_false (show ¬ (j : Int) = (y : Int) by omega), Bool.or_false]
theorem seenA_put {b : Nat} {p : List Int} {y : Nat} {w : World} (h : Blk b (seenA p) w) (hy : y < 7) : Blk b (seenA (p ++ [(y : Int)])) (w.setCell ⟨b, y, none⟩ (.bool true)) := by
  refine ⟨by rw [World.size_setCell]; exact h.1, fun o => ?_, fun o => by rw [World.frozen?_setCell]; exact h.2.2 o⟩
  by_cases e : o = y
  · subst e
    have h1 := (h.2.1 o).trans (seenA_at p hy)
    rw [World.cell?_setCell_same w ⟨b, o, none⟩ _ h1, seenA_at _ hy, hasB_snoc]
    simp
  · rw [World.cell?_setCell_other w ⟨b, y, none⟩ ⟨b, o, none⟩ _ (fun g => e (by injection g with _ g2; exact g2.symm)), h.2.1 o]
    by_cases ho : o < 7
    · rw [seenA_at _ ho, seenA_at _ ho, hasB_snoc, decide_eq_false (show ¬ (o : Int) = (y : Int) by omega), Bool.or_false]
    · rw [Array.getElem?_eq_none (by simp [seenA]; omega), Array.getElem?_eq_none (by simp [seenA]; omega)]

set_option maxRecDepth 100000 in
set_option maxHeartbeats 4000000 in
theorem tvalid_c {vt vl : Value} {tied lots : List Int} {w : World} (ht : IntsAt w vt tied) (hl : IntsAt w vl lots) (rule : Int) :
    Calls Try.prog 15 #[.int .i64 rule, vt, vl] w fun e w' => e = .returned (.bool (validS rule tied lots)) ∧ Below w.heap.size w w' := by
  have T := Lib.hid ht
  have H := Lib.hid hl
  have htm := ht.len
  have hlm := hl.len
  obtain ⟨p, c, rfl⟩ := ht.shape
  obtain ⟨p', c', rfl⟩ := hl.shape
  obtain ⟨r, hr⟩ : ∃ r, validS rule tied lots = r := ⟨_, rfl⟩
  have HRT := Lib.hid (fun h => (by rw [← hr]; exact (valid_eq _ _ _).2 h : r = true))
  have HRF := Lib.hid (fun h => (by rw [← hr]; exact valid_false h : r = false))
  rw [hr]
  have HTN : Hid (tied.length ≠ 0 → tied ≠ []) := Lib.hid (fun h g => h (by rw [g]; rfl))
  have HTZ : Hid (tied.length = 0 → ¬ tied ≠ []) := Lib.hid (fun h g => g (List.eq_nil_of_length_eq_zero h))
  obtain ⟨len, hlen⟩ : ∃ n, tied.length = n := ⟨_, rfl⟩
  obtain ⟨nl, hnl⟩ : ∃ n, lots.length = n := ⟨_, rfl⟩
  have HN := Lib.hid hlen
  have HNL := Lib.hid hnl
  rw [hlen] at htm T HTN HTZ ⊢
  rw [hnl] at hlm H HRT HRF ⊢
  clear ht hl hr hlen hnl
  by_cases c1 : rule < 1
  · have HX : Hid (r = false) := Lib.hid (HRF.out (fun h => by have := h.1.1; omega))
    have d1 : decide (rule < 1) = true := decide_eq_true c1
    go_enter Try.func15, Try.ntmps15
    go_wp2_with fail
    go_ret
    exact ⟨ret_bb HX.out.symm, Below.refl _ _⟩
  have d1 : decide (rule < 1) = false := decide_eq_false c1
  by_cases c2 : 3 < rule
  · have HX : Hid (r = false) := Lib.hid (HRF.out (fun h => by have := h.1.2.1; omega))
    have d2 : decide (3 < rule) = true := decide_eq_true c2
    go_enter Try.func15, Try.ntmps15
    go_wp2_with fail
    go_ret
    exact ⟨ret_bb HX.out.symm, Below.refl _ _⟩
  have d2 : decide (3 < rule) = false := decide_eq_false c2
  by_cases c3 : (nl : Int) < 1
  · have HX : Hid (r = false) := Lib.hid (HRF.out (fun h => by have := h.1.2.2.1; omega))
    have d3 : decide ((nl : Int) < 1) = true := decide_eq_true c3
    go_enter Try.func15, Try.ntmps15
    go_wp2_with fail
    go_ret
    exact ⟨ret_bb HX.out.symm, Below.refl _ _⟩
  have d3 : decide ((nl : Int) < 1) = false := decide_eq_false c3
  by_cases c4 : 7 < (nl : Int)
  · have HX : Hid (r = false) := Lib.hid (HRF.out (fun h => by have := h.1.2.2.2; omega))
    have d4 : decide (7 < (nl : Int)) = true := decide_eq_true c4
    go_enter Try.func15, Try.ntmps15
    go_wp2_with fail
    go_ret
    exact ⟨ret_bb HX.out.symm, Below.refl _ _⟩
  have d4 : decide (7 < (nl : Int)) = false := decide_eq_false c4
  by_cases c5 : len = 0
  · have HX : Hid (r = false) := Lib.hid (HRF.out (fun h => HTZ.out c5 h.2.2.1))
    subst c5
    go_enter Try.func15, Try.ntmps15
    go_wp2_with fail
    go_ret
    exact ⟨ret_bb HX.out.symm, Below.refl _ _⟩
  have d5 : ((len : Int) == 0) = false := by rw [beq_eq_false_iff_ne]; omega
  obtain ⟨W, hW⟩ : ∃ W, w.alloc (.cells #[.bool false, .bool false, .bool false, .bool false, .bool false, .bool false, .bool false] 59) = W := ⟨_, rfl⟩
  have hBW : Below w.heap.size w W := by rw [← hW]; exact (Below.refl _ _).alloc (Nat.le_refl _) _
  have A0 : Hid (Blk w.heap.size (seenA []) W) := Lib.hid (by rw [← hW]; exact Blk.new w _ _)
  go_enter Try.func15, Try.ntmps15
  go_wp2_with fail
  go_loopw [36] (fun iv wr => ∃ k : Nat, k ≤ nl ∧ iv = .int .i64 k ∧ Below w.heap.size w wr ∧ Hid (Blk w.heap.size (seenA (lots.take k)) wr) ∧ Hid (BalP nl (lots.take k))) (fun iv _ => nl - (intOf iv).toNat)
  case atStart => exact ⟨0, by omega, rfl, hBW, A0, Lib.hid ⟨fun c hc => by simp at hc, by simp⟩⟩
  case round =>
    obtain ⟨k, hk, rfl, hbel, hB, hP⟩ := hrel
    by_cases hlt : k < nl
    · have hltz : (k : Int) < (nl : Int) := by omega
      obtain ⟨bb, off, hp0, hc1, hc2, hcell⟩ := (H.out.keep hbel).cellAt k (by rw [HNL.out]; exact hlt)
      subst hp0
      obtain ⟨y, hy⟩ : ∃ y, lots.getD k 0 = y := ⟨_, rfl⟩
      rw [hy] at hcell
      have HY := Lib.hid hy
      by_cases y0 : y < 0
      · have HX : Hid (r = false) := Lib.hid (HRF.out (fun g => bal_no_range (by rw [HNL.out]; exact hlt) HY.out (by omega) g.2.1))
        have e0 : decide (y < 0) = true := decide_eq_true y0
        clear hy
        go_wp2_with fail
        go_ret
        exact ⟨ret_bb HX.out.symm, hbel⟩
      have e0 : decide (y < 0) = false := decide_eq_false y0
      by_cases y1 : (nl : Int) ≤ y
      · have HX : Hid (r = false) := Lib.hid (HRF.out (fun g => bal_no_range (by rw [HNL.out]; exact hlt) HY.out (by omega) g.2.1))
        have e1 : decide ((nl : Int) ≤ y) = true := decide_eq_true y1
        clear hy
        go_wp2_with fail
        go_ret
        exact ⟨ret_bb HX.out.symm, hbel⟩
      have e1 : decide ((nl : Int) ≤ y) = false := decide_eq_false y1
      obtain ⟨yn, hyn⟩ : ∃ j : Nat, y = j := ⟨y.toNat, by omega⟩
      subst hyn
      have hy7 : yn < 7 := by omega
      have hy7z : (yn : Int) < 7 := by omega
      have hs := (hB.out.2.1 yn).trans (seenA_at _ hy7)
      have hfr := hB.out.2.2 yn
      have hts := take_snoc_i (l := lots) (k := k) (by rw [HNL.out]; exact hlt)
      rw [hy] at hts
      have HB2 : Hid (Blk w.heap.size (seenA (lots.take (k + 1))) (wr.setCell ⟨w.heap.size, yn, none⟩ (.bool true))) := Lib.hid (by rw [hts]; exact seenA_put hB.out hy7)
      clear hts
      cases hb : hasB (lots.take k) yn
      · rw [hb] at hs
        have HX := Lib.hid (BalP.snoc (by rw [HNL.out]; exact hlt) HY.out hP.out (by omega) (by omega) hb)
        clear hy hb
        go_wp2_with fail
        go_roundw
        case rel => exact ⟨k + 1, by omega, by go_num, hbel.setCell (Nat.le_refl _) _, HB2, HX⟩
        case measure => simp [intOf] <;> omega
      · rw [hb] at hs
        have HX : Hid (r = false) := Lib.hid (HRF.out (fun g => bal_no_dup (by rw [HNL.out]; exact hlt) HY.out hb g.2.1))
        clear hy hb
        go_wp2_with fail
        go_ret
        exact ⟨ret_bb HX.out.symm, hbel⟩
    · have hltz : ¬ (k : Int) < (nl : Int) := by omega
      have HB1 : Hid (BalP nl lots) := Lib.hid (by have := hP.out; rwa [List.take_of_length_le (by rw [HNL.out]; omega)] at this)
      clear hP hB hlt hk
      obtain ⟨wo, rfl⟩ : ∃ x, x = wr := ⟨_, rfl⟩
      go_wp2_with fail
      go_loopw [57] (fun iv wr => ∃ k : Nat, k ≤ len ∧ iv = .int .i64 k ∧ wr = wo ∧ Hid ((∀ c ∈ tied.take k, 0 ≤ c ∧ c < (nl : Int)) ∧ (tied.take k).Pairwise (· < ·))) (fun iv _ => len - (intOf iv).toNat)
      case atStart => exact ⟨0, by omega, rfl, rfl, Lib.hid ⟨fun c hc => by simp at hc, by simp⟩⟩
      case round =>
        obtain ⟨k, hk, rfl, rfl, hP⟩ := hrel
        by_cases hlt : k < len
        · have hltz : (k : Int) < (len : Int) := by omega
          obtain ⟨bb, off, hp0, hc1, hc2, hcell⟩ := (T.out.keep hbel).cellAt k (by rw [HN.out]; exact hlt)
          subst hp0
          obtain ⟨y, hy⟩ : ∃ y, tied.getD k 0 = y := ⟨_, rfl⟩
          rw [hy] at hcell
          have HY := Lib.hid hy
          by_cases y0 : y < 0
          · have HX : Hid (r = false) := Lib.hid (HRF.out (fun g => bal_no_range (by rw [HN.out]; exact hlt) HY.out (by omega) g.2.2.2.1))
            have e0 : decide (y < 0) = true := decide_eq_true y0
            clear hy
            go_wp2_with fail
            go_ret
            exact ⟨ret_bb HX.out.symm, hbel⟩
          have e0 : decide (y < 0) = false := decide_eq_false y0
          by_cases y1 : (nl : Int) ≤ y
          · have HX : Hid (r = false) := Lib.hid (HRF.out (fun g => bal_no_range (by rw [HN.out]; exact hlt) HY.out (by omega) g.2.2.2.1))
            have e1 : decide ((nl : Int) ≤ y) = true := decide_eq_true y1
            clear hy
            go_wp2_with fail
            go_ret
            exact ⟨ret_bb HX.out.symm, hbel⟩
          have e1 : decide ((nl : Int) ≤ y) = false := decide_eq_false y1
          have hts := take_snoc_i (l := tied) (k := k) (by rw [HN.out]; exact hlt)
          rw [hy] at hts
          have HRG : Hid (∀ c ∈ tied.take (k + 1), 0 ≤ c ∧ c < (nl : Int)) := Lib.hid (fun c hc => by
            rw [hts] at hc
            rcases List.mem_append.1 hc with g | g
            · exact hP.out.1 c g
            · rw [List.mem_singleton.1 g]; omega)
          clear hts
          cases k with
          | zero =>
            have hcell : wr.cell? ⟨bb, off, none⟩ = some (.int .i64 y) := hcell
            have HX := Lib.hid (And.intro HRG.out (pair_one tied))
            clear hy
            go_wp2_with fail
            go_roundw
            case rel => exact ⟨0 + 1, by omega, by go_num, by trivial, HX⟩
            case measure => simp [intOf] <;> omega
          | succ k =>
            obtain ⟨bb2, off2, hp2, _, _, hcell2⟩ := (T.out.keep hbel).cellAt k (by rw [HN.out]; omega)
            simp only [Option.some.injEq, Addr.mk.injEq, and_true] at hp2
            obtain ⟨rfl, rfl⟩ := hp2
            obtain ⟨x, hx⟩ : ∃ y, tied.getD k 0 = y := ⟨_, rfl⟩
            rw [hx] at hcell2
            have kz : (0 : Int) < ((k + 1 : Nat) : Int) := by omega
            have kz' : (0 : Int) < (k : Int) + 1 := by omega
            by_cases hxy : x < y
            · have HX := Lib.hid (And.intro HRG.out (pair_step (by rw [HN.out]; exact hlt) hx hy hP.out.2 hxy))
              have hxy' : ¬ y ≤ x := by omega
              clear hx hy
              go_wp2_with fail
              go_roundw
              case rel => exact ⟨k + 1 + 1, by omega, by go_num, by trivial, HX⟩
              case measure => simp [intOf] <;> omega
            · have HX : Hid (r = false) := Lib.hid (HRF.out (fun g => pair_no (by rw [HN.out]; exact hlt) hx hy hxy g.2.2.2.2))
              have hxy' : y ≤ x := by omega
              clear hx hy
              go_wp2_with fail
              go_ret
              exact ⟨ret_bb HX.out.symm, hbel⟩
        · have hltz : ¬ (k : Int) < (len : Int) := by omega
          have HX : Hid (r = true) := Lib.hid (HRT.out (by
            have h := hP.out
            rw [List.take_of_length_le (by rw [HN.out]; omega)] at h
            exact ⟨⟨by omega, by omega, by omega, by omega⟩, HB1.out, HTN.out c5, ⟨h.1, h.2.imp fun g => by omega⟩, h.2⟩))
          go_wp2_with fail
          go_ret
          exact ⟨ret_bb HX.out.symm, hbel⟩

end Go.Proofs.Ythplbhgbgcfogaa
