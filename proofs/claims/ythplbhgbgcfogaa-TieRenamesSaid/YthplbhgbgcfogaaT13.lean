/- tie.Break and the reference's Break: both are breakS. -/
import Derived.Test.YthplbhgbgcfogaaT12
import Derived.Test.YthplbhgbgcfogaaT8b
namespace Go.Proofs.Nums

theorem nodup_len : ∀ (n : Nat) (l : List Int), l.Nodup → (∀ x ∈ l, 0 ≤ x ∧ x < (n : Int)) → l.length ≤ n := by
  intro n
  induction n with
  | zero =>
    intro l _ h
    cases l with
    | nil => exact Nat.le_refl _
    | cons a t => have := h a (by simp); omega
  | succ n ih =>
    intro l hn h
    by_cases hm : (n : Int) ∈ l
    · have h1 := ih (l.erase n) (hn.erase _) (fun x hx => by
        have := (hn.mem_erase_iff).1 hx
        have := h x this.2
        have := ‹x ≠ n ∧ x ∈ l›.1
        omega)
      rw [List.length_erase_of_mem hm] at h1
      omega
    · have h1 := ih l hn (fun x hx => by
        have := h x hx
        have : x ≠ n := fun e => hm (e ▸ hx)
        omega)
      omega
theorem bal_mem {l : List Int} (h : BalP l.length l) {c : Int} (h0 : 0 ≤ c) (h1 : c < l.length) : c ∈ l := by
  refine Classical.byContradiction fun hn => ?_
  have := nodup_len l.length (c :: l) (List.nodup_cons.2 ⟨hn, h.2⟩) (fun x hx => by
    rcases List.mem_cons.1 hx with g | g
    · rw [g]; exact ⟨h0, h1⟩
    · exact h.1 x g)
  simp at this
  omega
theorem drop_cons {α : Type} {l : List α} {k : Nat} {d : α} (h : k < l.length) : l.drop k = l.getD k d :: l.drop (k + 1) := by
  rw [List.drop_eq_getElem_cons h, List.getD_eq_getElem?_getD, List.getElem?_eq_getElem h]; rfl
theorem rev_get {α : Type} {l : List α} {k j : Nat} {d : α} (h : j + 1 + k = l.length) : l.reverse.getD k d = l.getD j d := by
  rw [List.getD_eq_getElem?_getD, List.getD_eq_getElem?_getD, List.getElem?_reverse (by omega), show l.length - 1 - k = j by omega]
theorem lround_step {least : Bool} {R : List (List Q)} {tied l : List Int} {k : Nat} {v : List Q} (h : k < R.length) (hv : R.getD k [] = v) (hP : leftS least R tied = leftS least (R.drop k) l) (hl : 1 < l.length) : leftS least R tied = leftS least (R.drop (k + 1)) (extA (ltV v least) l) := by
  rw [hP, drop_cons (d := []) h, hv, leftS, if_pos hl]
theorem lround_skip {least : Bool} {R : List (List Q)} {tied l : List Int} {k : Nat} (h : k < R.length) (hP : leftS least R tied = leftS least (R.drop k) l) (hl : ¬ 1 < l.length) : leftS least R tied = leftS least (R.drop (k + 1)) l := by
  rw [hP, drop_cons (d := []) h, leftS, if_neg hl]
theorem lround_end {least : Bool} {R : List (List Q)} {tied l : List Int} {k : Nat} (h : ¬ k < R.length ∨ ¬ 1 < l.length) (hP : leftS least R tied = leftS least (R.drop k) l) : leftS least R tied = l := by
  rw [hP]
  by_cases h1 : k < R.length
  · exact leftS_one _ _ (by rcases h with g | g; exact absurd h1 g; exact g)
  · rw [List.drop_eq_nil_of_le (by omega)]; rfl
theorem break_of {rule : Int} {L : List (List Q)} {tied lots l : List Int} {least : Bool} (hv : validS rule tied lots = true) (h : leftS least (roundsS rule L) tied = l) :
    (l.length = 1 → (breakS rule L tied lots least).1 = l.headD 0 ∧ (breakS rule L tied lots least).2 = false) ∧ (l.length ≠ 1 → (breakS rule L tied lots least).1 = pickS lots least l ∧ (breakS rule L tied lots least).2 = true) := by
  unfold breakS
  rw [if_pos hv]
  simp only [h]
  exact ⟨fun g => by rw [if_pos g]; exact ⟨rfl, rfl⟩, fun g => by rw [if_neg g]; exact ⟨rfl, rfl⟩⟩
theorem break_no {rule : Int} {L : List (List Q)} {tied lots : List Int} {least : Bool} (hv : validS rule tied lots = false) : breakS rule L tied lots least = (-1, false) := by
  unfold breakS
  rw [if_neg (by rw [hv]; decide)]
theorem head_getD {l : List Int} (h : l.length = 1) : l.headD 0 = l.getD 0 0 := by
  cases l with
  | nil => simp at h
  | cons a t => rfl

end Go.Proofs.Nums
namespace Go.Proofs.Ythplbhgbgcfogaa
open Go.RowKit Go.Proofs.Kit Go.Proofs.Nums

theorem ret_ib {a b : Int} {c d : Bool} (h : a = b) (g : c = d) : Ending.returned (.tuple #[.int .i64 a, .bool c]) = .returned (.tuple #[.int .i64 b, .bool d]) := by rw [h, g]
/-- The one cell of a round: its row of votes. -/
def rowR (w : World) (c : List Value) (l : List Q) : Prop := ∃ u, c = [u] ∧ RatsAt w u l
def RoundsAt (w : World) (v : Value) (L : List (List Q)) : Prop := SliceOf rowR 1 w v L
theorem RoundsAt.keep {w w' : World} {v : Value} {L : List (List Q)} (h : RoundsAt w v L) (hb : Below w.heap.size w w') : RoundsAt w' v L := SliceOf.keep h hb fun _ _ ⟨u, h1, h2⟩ => ⟨u, h1, h2.keep hb⟩
theorem RoundsAt.shp {w : World} {v : Value} {L : List (List Q)} (h : RoundsAt w v L) : ∃ p c, v = .slice p L.length c := by
  obtain ⟨p, c, h1, _⟩ := SliceOf.shape h
  exact ⟨p, c, h1⟩
theorem RoundsAt.cellAt {w : World} {p : Option Addr} {n c : Nat} {L : List (List Q)} (h : RoundsAt w (.slice p n c) L) {k : Nat} (hk : k < L.length) {v : List Q} (hv : L.getD k [] = v) :
    ∃ b off u, p = some ⟨b, off, none⟩ ∧ L.length ≤ c ∧ c ≤ 9223372036854775807 ∧ w.cell? ⟨b, off + k, none⟩ = some u ∧ RatsAt w u v := by
  obtain ⟨b, off, cap, cs, hv2, h1, h2, h3, h4, h5⟩ := SliceOf.at_ (by decide) h hk
  simp only [Value.slice.injEq] at hv2
  obtain ⟨rfl, _, rfl⟩ := hv2
  have e : L[k] = v := by rw [← hv, List.getD_eq_getElem?_getD, List.getElem?_eq_getElem hk]; rfl
  rw [e] at h4
  obtain ⟨u, rfl, g⟩ := h4
  have := h5 0 u rfl
  rw [Nat.mul_one, Nat.add_zero] at this
  exact ⟨b, off, u, rfl, h1, h2, this, g⟩
/-- A round is a slice. -/
theorem RatsAt.sl {w : World} {v : Value} {l : List Q} (h : RatsAt w v l) : ∃ p n c, v = .slice p n c := by
  obtain ⟨p, c, e⟩ := h.shp
  exact ⟨p, _, c, e⟩

set_option maxRecDepth 100000 in
set_option maxHeartbeats 8000000 in
theorem tbreak_1 {ve vt vl : Value} {L : List (List Q)} {tied lots : List Int} {w : World} (hL : RoundsAt w ve L) (ht : IntsAt w vt tied) (hl : IntsAt w vl lots) (least : Bool) (hv : validS 1 tied lots = true) :
    Calls Try.prog 13 #[.int .i64 1, ve, vt, vl, .bool least] w fun e w' => e = .returned (.tuple #[.int .i64 (breakS 1 L tied lots least).1, .bool (breakS 1 L tied lots least).2]) ∧ Below w.heap.size w w' := by
  obtain ⟨⟨_, _, _, hl7⟩, hbl, htne, hbt, htp⟩ := (valid_eq _ _ _).1 hv
  have htlen := nodup_len _ _ hbt.2 hbt.1
  have hLm : L.length ≤ 9223372036854775807 := SliceOf.len hL
  have HL := Lib.hid hL
  have HT := Lib.hid ht
  have HLO := Lib.hid hl
  have HSUB : Hid (∀ x ∈ tied, x ∈ lots) := Lib.hid (fun x hx => bal_mem hbl (hbt.1 x hx).1 (hbt.1 x hx).2)
  have HRG : Hid (∀ x ∈ tied, 0 ≤ x ∧ x < 1000) := Lib.hid (fun x hx => by have := hbt.1 x hx; omega)
  have HND := Lib.hid hbt.2
  have HTNE := Lib.hid htne
  have h7 : lots.length ≤ 1000 := by omega
  have h71 : tied.length ≤ 1000 := by omega
  have TV : Hid (∀ w', Below w.heap.size w w' → Calls Try.prog 15 #[.int .i64 1, vt, vl] w' fun e w'' => e = .returned (.bool true) ∧ Below w'.heap.size w' w'') := Lib.hid (fun w' hb => by
    have := tvalid_c (ht.keep hb) (hl.keep hb) 1
    rw [hv] at this
    exact this)
  have HBR := Lib.hid (fun l' h => break_of (L := L) (l := l') (least := least) hv h)
  obtain ⟨ra, hra⟩ : ∃ x, (breakS 1 L tied lots least).1 = x := ⟨_, rfl⟩
  obtain ⟨rb, hrb⟩ : ∃ x, (breakS 1 L tied lots least).2 = x := ⟨_, rfl⟩
  rw [hra, hrb] at HBR
  rw [hra, hrb]
  clear hra hrb hv hbl htne hbt htp hl7
  have CL : Hid (∀ w', Below w.heap.size w w' → Calls Try.prog 26 #[vt] w' fun e w'' => ∃ v', e = .returned v' ∧ IntsAt w'' v' tied ∧ Below w'.heap.size w' w'') := Lib.hid (fun w' hb => iclone_c (ht.keep hb) (by omega))
  obtain ⟨p2, c2, rfl⟩ := hL.shp
  obtain ⟨p3, c3, rfl⟩ := ht.shape
  obtain ⟨p4, c4, rfl⟩ := hl.shape
  obtain ⟨R, hR⟩ : ∃ R, roundsS 1 L = R := ⟨_, rfl⟩
  have HRR : Hid (R.length = L.length ∧ R = L.reverse) := Lib.hid (by rw [← hR]; exact ⟨List.length_reverse, rfl⟩)
  rw [hR] at HBR
  obtain ⟨n, hn⟩ : ∃ n, L.length = n := ⟨_, rfl⟩
  obtain ⟨nt, hnt⟩ : ∃ n, tied.length = n := ⟨_, rfl⟩
  obtain ⟨nl, hnl⟩ : ∃ n, lots.length = n := ⟨_, rfl⟩
  have HN := Lib.hid hn
  have HNL : Hid (lots.length ≤ 1000) := Lib.hid h7
  have HNT : Hid (tied.length ≤ 1000) := Lib.hid h71
  rw [hn] at hLm HL
  rw [hn]
  rw [hnt] at CL HT TV
  rw [hnl] at HLO TV
  rw [hnt, hnl]
  obtain ⟨W, hW⟩ : ∃ W, w.alloc (.cells #[.slice p4 nl c4] 23) = W := ⟨_, rfl⟩
  have hBW : Below w.heap.size w W := by rw [← hW]; exact (Below.refl _ _).alloc (Nat.le_refl _) _
  have KW : W.cell? ⟨w.heap.size, 0, none⟩ = some (.slice p4 nl c4) := by rw [← hW]; exact (Blk.new w #[.slice p4 nl c4] 23).2.1 0
  have HKW := Lib.hid KW
  clear hL ht hl hR hn hnt hnl h7 h71 htlen
  go_enter Try.func13, Try.ntmps13
  go_wp2_with (first
    | (go_at_call 15; ((with_reducible refine (TV.out _ hBW).mono ?_); rintro e w1 ⟨rfl, hb1⟩; have hB1 := bel2' hBW hb1))
    | (go_at_call 26; ((with_reducible refine (CL.out _ hB1).mono ?_); rintro e w2 ⟨v2, rfl, hi2, hb2⟩; have hB2 := bel2' hb1 hb2)))
  go_loopw [12, 13] (fun lv iv wr => ∃ k : Nat, ∃ l : List Int, k ≤ n ∧ iv = .int .i64 k ∧ IntsAt wr lv l ∧ Below W.heap.size W wr ∧ Hid (l ≠ [] ∧ l.Sublist tied ∧ leftS least R tied = leftS least (R.drop k) l)) (fun _ iv _ => n - (intOf iv).toNat)
  case atStart => exact ⟨0, tied, by omega, rfl, hi2, hB2, Lib.hid ⟨HTNE.out, List.Sublist.refl _, rfl⟩⟩
  case round =>
    obtain ⟨k, l, hk, rfl, hI, hbel, hP⟩ := hrel
    have hbelw := bel2' hBW hbel
    obtain ⟨p1, c1, rfl⟩ := hI.shape
    obtain ⟨m, hm⟩ : ∃ n, l.length = n := ⟨_, rfl⟩
    have HM := Lib.hid hm
    have HI := Lib.hid hI
    rw [hm] at HI
    have hmle : m ≤ 1000 := by rw [← hm]; exact Nat.le_trans hP.out.2.1.length_le HNT.out
    have hm0 : 0 < m := by rw [← hm]; exact List.length_pos_iff.2 hP.out.1
    have hm0z : (0 : Int) < (m : Int) := by omega
    rw [hm]
    clear hI hm
    by_cases hgo : k < n ∧ 1 < m
    · obtain ⟨hkn, hm1⟩ := hgo
      have hkz : (k : Int) < (n : Int) := by omega
      have hmz : (1 : Int) < (m : Int) := by omega
      obtain ⟨n1, hn1⟩ : ∃ n1 : Nat, n1 + 1 = n := ⟨n - 1, by omega⟩
      obtain ⟨j, hj⟩ : ∃ j : Nat, j + k = n1 := ⟨n1 - k, by omega⟩
      have en1 : (n : Int) - 1 = (n1 : Int) := by omega
      have ej : (n1 : Int) - (k : Int) = (j : Int) := by omega
      have en2 : IntKind.i64.wrap (n1 : Int) = (n1 : Int) := w64 (by omega) (by omega)
      have ej2 : IntKind.i64.wrap (j : Int) = (j : Int) := w64 (by omega) (by omega)
      have hjn : j < n := by omega
      have hjz : (j : Int) < (n : Int) := by omega
      obtain ⟨v, hv⟩ : ∃ v, L.getD j [] = v := ⟨_, rfl⟩
      obtain ⟨bb, off, u, hp0, hcc, hcm, hcell, hrow⟩ := (HL.out.keep hbelw).cellAt (k := j) (by rw [HN.out]; omega) hv
      subst hp0
      obtain ⟨bb2, off2, u2, hp2, _, _, hcellk, hrow2⟩ := (HL.out.keep hbelw).cellAt (k := k) (by rw [HN.out]; omega) rfl
      simp only [Option.some.injEq, Addr.mk.injEq, and_true] at hp2
      obtain ⟨rfl, rfl⟩ := hp2
      have HRK : Hid (R.getD k [] = v) := Lib.hid (by rw [← hv]; rw [HRR.out.2, rev_get (j := j) (by rw [HN.out]; omega)])
      have HST := Lib.hid (lround_step (by rw [HRR.out.1, HN.out]; exact hkn) HRK.out hP.out.2.2 (by rw [HM.out]; exact hm1))
      have HNE : Hid (extA (ltV v least) l ≠ []) := Lib.hid (extA_ne' (ltV_swo hrow.shs least) hP.out.1)
      have HS2 : Hid ((extA (ltV v least) l).Sublist tied) := Lib.hid (extA_sub.trans hP.out.2.1)
      have EX := Lib.hid (extremes_c hrow HI.out (fun x hx => HRG.out x (hP.out.2.1.subset hx)) (by rw [HM.out]; omega) least)
      obtain ⟨pr, nr, cr, rfl⟩ := hrow.sl
      obtain ⟨pr2, nr2, cr2, rfl⟩ := hrow2.sl
      clear hv hrow hrow2
      go_wp2_with (go_at_call 27; ((with_reducible refine EX.out.mono ?_); rintro e w5 ⟨v5, rfl, hi5, hb5⟩; have hB5 := bel2' hbel hb5))
      go_roundw
      case rel => exact ⟨k + 1, _, by omega, by go_num, hi5, hB5, Lib.hid ⟨HNE.out, HS2.out, HST.out⟩⟩
      case measure => simp [intOf] <;> omega
    by_cases hk2 : k < n
    · have hkz : (k : Int) < (n : Int) := by omega
      have hmz : ¬ (1 : Int) < (m : Int) := by
        have : ¬ 1 < m := fun g => hgo ⟨hk2, g⟩
        omega
      have HE : Hid (leftS least R tied = l) := Lib.hid (lround_end (by rw [HRR.out.1, HN.out, HM.out]; omega) hP.out.2.2)
      have hBR := HBR.out l HE.out
      rw [HM.out] at hBR
      by_cases hm1 : m = 1
      · subst hm1
        have HX : Hid (ra = l.getD 0 0 ∧ rb = false) := Lib.hid (by rw [← head_getD HM.out]; exact hBR.1 rfl)
        obtain ⟨bb, off, hp0, _, _, hcell⟩ := HI.out.cellAt 0 (by rw [HM.out]; omega)
        subst hp0
        have hcell : wr.cell? ⟨bb, off, none⟩ = some (.int .i64 (l.getD 0 0)) := hcell
        obtain ⟨x, hx⟩ : ∃ x, l.getD 0 0 = x := ⟨_, rfl⟩
        rw [hx] at hcell HX
        clear hBR hx
        go_wp2_with fail
        go_ret2
        exact ⟨ret_ib HX.out.1.symm HX.out.2.symm, hbelw⟩
      · have hmz : ((m : Int) == 1) = false := by rw [beq_eq_false_iff_ne]; omega
        have HX : Hid (ra = pickS lots least l ∧ rb = true) := Lib.hid (hBR.2 hm1)
        have MX : Hid (∀ w', Below W.heap.size W w' → Below wr.heap.size wr w' → least = true → Calls Try.prog 30 #[.slice p1 m c1, .func (.func 28) #[] #[.pointer (some ⟨w.heap.size, 0, none⟩)]] w' fun e w'' => e = .returned (.int .i64 (pickS lots true l)) ∧ Below w'.heap.size w' w'') := Lib.hid (fun w' hb hb' _ =>
          maxfunc_c (HI.out.keep hb') (cell_keep hb HKW.out) (HLO.out.keep (bel2' hBW hb)) HNL.out (by rw [HM.out]; omega) hP.out.1 (HND.out.sublist hP.out.2.1) (fun x hx => HSUB.out x (hP.out.2.1.subset hx)))
        have MN : Hid (∀ w', Below W.heap.size W w' → Below wr.heap.size wr w' → least = false → Calls Try.prog 31 #[.slice p1 m c1, .func (.func 28) #[] #[.pointer (some ⟨w.heap.size, 0, none⟩)]] w' fun e w'' => e = .returned (.int .i64 (pickS lots false l)) ∧ Below w'.heap.size w' w'') := Lib.hid (fun w' hb hb' _ =>
          minfunc_c (HI.out.keep hb') (cell_keep hb HKW.out) (HLO.out.keep (bel2' hBW hb)) HNL.out (by rw [HM.out]; omega) hP.out.1 (HND.out.sublist hP.out.2.1) (fun x hx => HSUB.out x (hP.out.2.1.subset hx)))
        clear hBR
        cases least
        · go_wp2_with (go_at_call 31; ((with_reducible refine (MN.out _ hbel (Below.refl _ _) rfl).mono ?_); rintro e w5 ⟨rfl, hb5⟩; have hB5 := bel2' hbelw hb5))
          go_ret2
          exact ⟨ret_ib HX.out.1.symm HX.out.2.symm, hB5⟩
        · go_wp2_with (go_at_call 30; ((with_reducible refine (MX.out _ hbel (Below.refl _ _) rfl).mono ?_); rintro e w5 ⟨rfl, hb5⟩; have hB5 := bel2' hbelw hb5))
          go_ret2
          exact ⟨ret_ib HX.out.1.symm HX.out.2.symm, hB5⟩

    · have hkz : ¬ (k : Int) < (n : Int) := by omega
      have HE : Hid (leftS least R tied = l) := Lib.hid (lround_end (by rw [HRR.out.1, HN.out, HM.out]; omega) hP.out.2.2)
      have hBR := HBR.out l HE.out
      rw [HM.out] at hBR
      by_cases hm1 : m = 1
      · subst hm1
        have HX : Hid (ra = l.getD 0 0 ∧ rb = false) := Lib.hid (by rw [← head_getD HM.out]; exact hBR.1 rfl)
        obtain ⟨bb, off, hp0, _, _, hcell⟩ := HI.out.cellAt 0 (by rw [HM.out]; omega)
        subst hp0
        have hcell : wr.cell? ⟨bb, off, none⟩ = some (.int .i64 (l.getD 0 0)) := hcell
        obtain ⟨x, hx⟩ : ∃ x, l.getD 0 0 = x := ⟨_, rfl⟩
        rw [hx] at hcell HX
        clear hBR hx
        go_wp2_with fail
        go_ret2
        exact ⟨ret_ib HX.out.1.symm HX.out.2.symm, hbelw⟩
      · have hmz : ((m : Int) == 1) = false := by rw [beq_eq_false_iff_ne]; omega
        have HX : Hid (ra = pickS lots least l ∧ rb = true) := Lib.hid (hBR.2 hm1)
        have MX : Hid (∀ w', Below W.heap.size W w' → Below wr.heap.size wr w' → least = true → Calls Try.prog 30 #[.slice p1 m c1, .func (.func 28) #[] #[.pointer (some ⟨w.heap.size, 0, none⟩)]] w' fun e w'' => e = .returned (.int .i64 (pickS lots true l)) ∧ Below w'.heap.size w' w'') := Lib.hid (fun w' hb hb' _ =>
          maxfunc_c (HI.out.keep hb') (cell_keep hb HKW.out) (HLO.out.keep (bel2' hBW hb)) HNL.out (by rw [HM.out]; omega) hP.out.1 (HND.out.sublist hP.out.2.1) (fun x hx => HSUB.out x (hP.out.2.1.subset hx)))
        have MN : Hid (∀ w', Below W.heap.size W w' → Below wr.heap.size wr w' → least = false → Calls Try.prog 31 #[.slice p1 m c1, .func (.func 28) #[] #[.pointer (some ⟨w.heap.size, 0, none⟩)]] w' fun e w'' => e = .returned (.int .i64 (pickS lots false l)) ∧ Below w'.heap.size w' w'') := Lib.hid (fun w' hb hb' _ =>
          minfunc_c (HI.out.keep hb') (cell_keep hb HKW.out) (HLO.out.keep (bel2' hBW hb)) HNL.out (by rw [HM.out]; omega) hP.out.1 (HND.out.sublist hP.out.2.1) (fun x hx => HSUB.out x (hP.out.2.1.subset hx)))
        clear hBR
        cases least
        · go_wp2_with (go_at_call 31; ((with_reducible refine (MN.out _ hbel (Below.refl _ _) rfl).mono ?_); rintro e w5 ⟨rfl, hb5⟩; have hB5 := bel2' hbelw hb5))
          go_ret2
          exact ⟨ret_ib HX.out.1.symm HX.out.2.symm, hB5⟩
        · go_wp2_with (go_at_call 30; ((with_reducible refine (MX.out _ hbel (Below.refl _ _) rfl).mono ?_); rintro e w5 ⟨rfl, hb5⟩; have hB5 := bel2' hbelw hb5))
          go_ret2
          exact ⟨ret_ib HX.out.1.symm HX.out.2.symm, hB5⟩

set_option maxRecDepth 100000 in
set_option maxHeartbeats 8000000 in
theorem tbreak_2 {ve vt vl : Value} {L : List (List Q)} {tied lots : List Int} {w : World} (hL : RoundsAt w ve L) (ht : IntsAt w vt tied) (hl : IntsAt w vl lots) (least : Bool) (hv : validS 2 tied lots = true) :
    Calls Try.prog 13 #[.int .i64 2, ve, vt, vl, .bool least] w fun e w' => e = .returned (.tuple #[.int .i64 (breakS 2 L tied lots least).1, .bool (breakS 2 L tied lots least).2]) ∧ Below w.heap.size w w' := by
  obtain ⟨⟨_, _, _, hl7⟩, hbl, htne, hbt, htp⟩ := (valid_eq _ _ _).1 hv
  have htlen := nodup_len _ _ hbt.2 hbt.1
  have hLm : L.length ≤ 9223372036854775807 := SliceOf.len hL
  have HL := Lib.hid hL
  have HT := Lib.hid ht
  have HLO := Lib.hid hl
  have HSUB : Hid (∀ x ∈ tied, x ∈ lots) := Lib.hid (fun x hx => bal_mem hbl (hbt.1 x hx).1 (hbt.1 x hx).2)
  have HRG : Hid (∀ x ∈ tied, 0 ≤ x ∧ x < 1000) := Lib.hid (fun x hx => by have := hbt.1 x hx; omega)
  have HND := Lib.hid hbt.2
  have HTNE := Lib.hid htne
  have h7 : lots.length ≤ 1000 := by omega
  have h71 : tied.length ≤ 1000 := by omega
  have TV : Hid (∀ w', Below w.heap.size w w' → Calls Try.prog 15 #[.int .i64 2, vt, vl] w' fun e w'' => e = .returned (.bool true) ∧ Below w'.heap.size w' w'') := Lib.hid (fun w' hb => by
    have := tvalid_c (ht.keep hb) (hl.keep hb) 2
    rw [hv] at this
    exact this)
  have HBR := Lib.hid (fun l' h => break_of (L := L) (l := l') (least := least) hv h)
  obtain ⟨ra, hra⟩ : ∃ x, (breakS 2 L tied lots least).1 = x := ⟨_, rfl⟩
  obtain ⟨rb, hrb⟩ : ∃ x, (breakS 2 L tied lots least).2 = x := ⟨_, rfl⟩
  rw [hra, hrb] at HBR
  rw [hra, hrb]
  clear hra hrb hv hbl htne hbt htp hl7
  have CL : Hid (∀ w', Below w.heap.size w w' → Calls Try.prog 26 #[vt] w' fun e w'' => ∃ v', e = .returned v' ∧ IntsAt w'' v' tied ∧ Below w'.heap.size w' w'') := Lib.hid (fun w' hb => iclone_c (ht.keep hb) (by omega))
  obtain ⟨p2, c2, rfl⟩ := hL.shp
  obtain ⟨p3, c3, rfl⟩ := ht.shape
  obtain ⟨p4, c4, rfl⟩ := hl.shape
  obtain ⟨R, hR⟩ : ∃ R, roundsS 2 L = R := ⟨_, rfl⟩
  have HRR : Hid (R.length = L.length ∧ R = L) := Lib.hid (by rw [← hR]; exact ⟨rfl, rfl⟩)
  rw [hR] at HBR
  obtain ⟨n, hn⟩ : ∃ n, L.length = n := ⟨_, rfl⟩
  obtain ⟨nt, hnt⟩ : ∃ n, tied.length = n := ⟨_, rfl⟩
  obtain ⟨nl, hnl⟩ : ∃ n, lots.length = n := ⟨_, rfl⟩
  have HN := Lib.hid hn
  have HNL : Hid (lots.length ≤ 1000) := Lib.hid h7
  have HNT : Hid (tied.length ≤ 1000) := Lib.hid h71
  rw [hn] at hLm HL
  rw [hn]
  rw [hnt] at CL HT TV
  rw [hnl] at HLO TV
  rw [hnt, hnl]
  obtain ⟨W, hW⟩ : ∃ W, w.alloc (.cells #[.slice p4 nl c4] 23) = W := ⟨_, rfl⟩
  have hBW : Below w.heap.size w W := by rw [← hW]; exact (Below.refl _ _).alloc (Nat.le_refl _) _
  have KW : W.cell? ⟨w.heap.size, 0, none⟩ = some (.slice p4 nl c4) := by rw [← hW]; exact (Blk.new w #[.slice p4 nl c4] 23).2.1 0
  have HKW := Lib.hid KW
  clear hL ht hl hR hn hnt hnl h7 h71 htlen
  go_enter Try.func13, Try.ntmps13
  go_wp2_with (first
    | (go_at_call 15; ((with_reducible refine (TV.out _ hBW).mono ?_); rintro e w1 ⟨rfl, hb1⟩; have hB1 := bel2' hBW hb1))
    | (go_at_call 26; ((with_reducible refine (CL.out _ hB1).mono ?_); rintro e w2 ⟨v2, rfl, hi2, hb2⟩; have hB2 := bel2' hb1 hb2)))
  go_loopw [12, 13] (fun lv iv wr => ∃ k : Nat, ∃ l : List Int, k ≤ n ∧ iv = .int .i64 k ∧ IntsAt wr lv l ∧ Below W.heap.size W wr ∧ Hid (l ≠ [] ∧ l.Sublist tied ∧ leftS least R tied = leftS least (R.drop k) l)) (fun _ iv _ => n - (intOf iv).toNat)
  case atStart => exact ⟨0, tied, by omega, rfl, hi2, hB2, Lib.hid ⟨HTNE.out, List.Sublist.refl _, rfl⟩⟩
  case round =>
    obtain ⟨k, l, hk, rfl, hI, hbel, hP⟩ := hrel
    have hbelw := bel2' hBW hbel
    obtain ⟨p1, c1, rfl⟩ := hI.shape
    obtain ⟨m, hm⟩ : ∃ n, l.length = n := ⟨_, rfl⟩
    have HM := Lib.hid hm
    have HI := Lib.hid hI
    rw [hm] at HI
    have hmle : m ≤ 1000 := by rw [← hm]; exact Nat.le_trans hP.out.2.1.length_le HNT.out
    have hm0 : 0 < m := by rw [← hm]; exact List.length_pos_iff.2 hP.out.1
    have hm0z : (0 : Int) < (m : Int) := by omega
    rw [hm]
    clear hI hm
    by_cases hgo : k < n ∧ 1 < m
    · obtain ⟨hkn, hm1⟩ := hgo
      have hkz : (k : Int) < (n : Int) := by omega
      have hmz : (1 : Int) < (m : Int) := by omega
      obtain ⟨v, hv⟩ : ∃ v, L.getD k [] = v := ⟨_, rfl⟩
      obtain ⟨bb, off, u, hp0, hcc, hcm, hcell, hrow⟩ := (HL.out.keep hbelw).cellAt (k := k) (by rw [HN.out]; omega) hv
      subst hp0
      obtain ⟨bb2, off2, u2, hp2, _, _, hcellk, hrow2⟩ := (HL.out.keep hbelw).cellAt (k := k) (by rw [HN.out]; omega) rfl
      simp only [Option.some.injEq, Addr.mk.injEq, and_true] at hp2
      obtain ⟨rfl, rfl⟩ := hp2
      have HRK : Hid (R.getD k [] = v) := Lib.hid (by rw [← hv]; rw [HRR.out.2])
      have HST := Lib.hid (lround_step (by rw [HRR.out.1, HN.out]; exact hkn) HRK.out hP.out.2.2 (by rw [HM.out]; exact hm1))
      have HNE : Hid (extA (ltV v least) l ≠ []) := Lib.hid (extA_ne' (ltV_swo hrow.shs least) hP.out.1)
      have HS2 : Hid ((extA (ltV v least) l).Sublist tied) := Lib.hid (extA_sub.trans hP.out.2.1)
      have EX := Lib.hid (extremes_c hrow HI.out (fun x hx => HRG.out x (hP.out.2.1.subset hx)) (by rw [HM.out]; omega) least)
      obtain ⟨pr, nr, cr, rfl⟩ := hrow.sl
      obtain ⟨pr2, nr2, cr2, rfl⟩ := hrow2.sl
      clear hv hrow hrow2
      go_wp2_with (go_at_call 27; ((with_reducible refine EX.out.mono ?_); rintro e w5 ⟨v5, rfl, hi5, hb5⟩; have hB5 := bel2' hbel hb5))
      go_roundw
      case rel => exact ⟨k + 1, _, by omega, by go_num, hi5, hB5, Lib.hid ⟨HNE.out, HS2.out, HST.out⟩⟩
      case measure => simp [intOf] <;> omega
    by_cases hk2 : k < n
    · have hkz : (k : Int) < (n : Int) := by omega
      have hmz : ¬ (1 : Int) < (m : Int) := by
        have : ¬ 1 < m := fun g => hgo ⟨hk2, g⟩
        omega
      have HE : Hid (leftS least R tied = l) := Lib.hid (lround_end (by rw [HRR.out.1, HN.out, HM.out]; omega) hP.out.2.2)
      have hBR := HBR.out l HE.out
      rw [HM.out] at hBR
      by_cases hm1 : m = 1
      · subst hm1
        have HX : Hid (ra = l.getD 0 0 ∧ rb = false) := Lib.hid (by rw [← head_getD HM.out]; exact hBR.1 rfl)
        obtain ⟨bb, off, hp0, _, _, hcell⟩ := HI.out.cellAt 0 (by rw [HM.out]; omega)
        subst hp0
        have hcell : wr.cell? ⟨bb, off, none⟩ = some (.int .i64 (l.getD 0 0)) := hcell
        obtain ⟨x, hx⟩ : ∃ x, l.getD 0 0 = x := ⟨_, rfl⟩
        rw [hx] at hcell HX
        clear hBR hx
        go_wp2_with fail
        go_ret2
        exact ⟨ret_ib HX.out.1.symm HX.out.2.symm, hbelw⟩
      · have hmz : ((m : Int) == 1) = false := by rw [beq_eq_false_iff_ne]; omega
        have HX : Hid (ra = pickS lots least l ∧ rb = true) := Lib.hid (hBR.2 hm1)
        have MX : Hid (∀ w', Below W.heap.size W w' → Below wr.heap.size wr w' → least = true → Calls Try.prog 30 #[.slice p1 m c1, .func (.func 28) #[] #[.pointer (some ⟨w.heap.size, 0, none⟩)]] w' fun e w'' => e = .returned (.int .i64 (pickS lots true l)) ∧ Below w'.heap.size w' w'') := Lib.hid (fun w' hb hb' _ =>
          maxfunc_c (HI.out.keep hb') (cell_keep hb HKW.out) (HLO.out.keep (bel2' hBW hb)) HNL.out (by rw [HM.out]; omega) hP.out.1 (HND.out.sublist hP.out.2.1) (fun x hx => HSUB.out x (hP.out.2.1.subset hx)))
        have MN : Hid (∀ w', Below W.heap.size W w' → Below wr.heap.size wr w' → least = false → Calls Try.prog 31 #[.slice p1 m c1, .func (.func 28) #[] #[.pointer (some ⟨w.heap.size, 0, none⟩)]] w' fun e w'' => e = .returned (.int .i64 (pickS lots false l)) ∧ Below w'.heap.size w' w'') := Lib.hid (fun w' hb hb' _ =>
          minfunc_c (HI.out.keep hb') (cell_keep hb HKW.out) (HLO.out.keep (bel2' hBW hb)) HNL.out (by rw [HM.out]; omega) hP.out.1 (HND.out.sublist hP.out.2.1) (fun x hx => HSUB.out x (hP.out.2.1.subset hx)))
        clear hBR
        cases least
        · go_wp2_with (go_at_call 31; ((with_reducible refine (MN.out _ hbel (Below.refl _ _) rfl).mono ?_); rintro e w5 ⟨rfl, hb5⟩; have hB5 := bel2' hbelw hb5))
          go_ret2
          exact ⟨ret_ib HX.out.1.symm HX.out.2.symm, hB5⟩
        · go_wp2_with (go_at_call 30; ((with_reducible refine (MX.out _ hbel (Below.refl _ _) rfl).mono ?_); rintro e w5 ⟨rfl, hb5⟩; have hB5 := bel2' hbelw hb5))
          go_ret2
          exact ⟨ret_ib HX.out.1.symm HX.out.2.symm, hB5⟩

    · have hkz : ¬ (k : Int) < (n : Int) := by omega
      have HE : Hid (leftS least R tied = l) := Lib.hid (lround_end (by rw [HRR.out.1, HN.out, HM.out]; omega) hP.out.2.2)
      have hBR := HBR.out l HE.out
      rw [HM.out] at hBR
      by_cases hm1 : m = 1
      · subst hm1
        have HX : Hid (ra = l.getD 0 0 ∧ rb = false) := Lib.hid (by rw [← head_getD HM.out]; exact hBR.1 rfl)
        obtain ⟨bb, off, hp0, _, _, hcell⟩ := HI.out.cellAt 0 (by rw [HM.out]; omega)
        subst hp0
        have hcell : wr.cell? ⟨bb, off, none⟩ = some (.int .i64 (l.getD 0 0)) := hcell
        obtain ⟨x, hx⟩ : ∃ x, l.getD 0 0 = x := ⟨_, rfl⟩
        rw [hx] at hcell HX
        clear hBR hx
        go_wp2_with fail
        go_ret2
        exact ⟨ret_ib HX.out.1.symm HX.out.2.symm, hbelw⟩
      · have hmz : ((m : Int) == 1) = false := by rw [beq_eq_false_iff_ne]; omega
        have HX : Hid (ra = pickS lots least l ∧ rb = true) := Lib.hid (hBR.2 hm1)
        have MX : Hid (∀ w', Below W.heap.size W w' → Below wr.heap.size wr w' → least = true → Calls Try.prog 30 #[.slice p1 m c1, .func (.func 28) #[] #[.pointer (some ⟨w.heap.size, 0, none⟩)]] w' fun e w'' => e = .returned (.int .i64 (pickS lots true l)) ∧ Below w'.heap.size w' w'') := Lib.hid (fun w' hb hb' _ =>
          maxfunc_c (HI.out.keep hb') (cell_keep hb HKW.out) (HLO.out.keep (bel2' hBW hb)) HNL.out (by rw [HM.out]; omega) hP.out.1 (HND.out.sublist hP.out.2.1) (fun x hx => HSUB.out x (hP.out.2.1.subset hx)))
        have MN : Hid (∀ w', Below W.heap.size W w' → Below wr.heap.size wr w' → least = false → Calls Try.prog 31 #[.slice p1 m c1, .func (.func 28) #[] #[.pointer (some ⟨w.heap.size, 0, none⟩)]] w' fun e w'' => e = .returned (.int .i64 (pickS lots false l)) ∧ Below w'.heap.size w' w'') := Lib.hid (fun w' hb hb' _ =>
          minfunc_c (HI.out.keep hb') (cell_keep hb HKW.out) (HLO.out.keep (bel2' hBW hb)) HNL.out (by rw [HM.out]; omega) hP.out.1 (HND.out.sublist hP.out.2.1) (fun x hx => HSUB.out x (hP.out.2.1.subset hx)))
        clear hBR
        cases least
        · go_wp2_with (go_at_call 31; ((with_reducible refine (MN.out _ hbel (Below.refl _ _) rfl).mono ?_); rintro e w5 ⟨rfl, hb5⟩; have hB5 := bel2' hbelw hb5))
          go_ret2
          exact ⟨ret_ib HX.out.1.symm HX.out.2.symm, hB5⟩
        · go_wp2_with (go_at_call 30; ((with_reducible refine (MX.out _ hbel (Below.refl _ _) rfl).mono ?_); rintro e w5 ⟨rfl, hb5⟩; have hB5 := bel2' hbelw hb5))
          go_ret2
          exact ⟨ret_ib HX.out.1.symm HX.out.2.symm, hB5⟩

set_option maxRecDepth 100000 in
set_option maxHeartbeats 8000000 in
theorem tbreak_3 {ve vt vl : Value} {L : List (List Q)} {tied lots : List Int} {w : World} (hL : RoundsAt w ve L) (ht : IntsAt w vt tied) (hl : IntsAt w vl lots) (least : Bool) (hv : validS 3 tied lots = true) :
    Calls Try.prog 13 #[.int .i64 3, ve, vt, vl, .bool least] w fun e w' => e = .returned (.tuple #[.int .i64 (breakS 3 L tied lots least).1, .bool (breakS 3 L tied lots least).2]) ∧ Below w.heap.size w w' := by
  obtain ⟨⟨_, _, _, hl7⟩, hbl, htne, hbt, htp⟩ := (valid_eq _ _ _).1 hv
  have htlen := nodup_len _ _ hbt.2 hbt.1
  have hLm : L.length ≤ 9223372036854775807 := SliceOf.len hL
  have HL := Lib.hid hL
  have HT := Lib.hid ht
  have HLO := Lib.hid hl
  have HSUB : Hid (∀ x ∈ tied, x ∈ lots) := Lib.hid (fun x hx => bal_mem hbl (hbt.1 x hx).1 (hbt.1 x hx).2)
  have HRG : Hid (∀ x ∈ tied, 0 ≤ x ∧ x < 1000) := Lib.hid (fun x hx => by have := hbt.1 x hx; omega)
  have HND := Lib.hid hbt.2
  have HTNE := Lib.hid htne
  have h7 : lots.length ≤ 1000 := by omega
  have h71 : tied.length ≤ 1000 := by omega
  have TV : Hid (∀ w', Below w.heap.size w w' → Calls Try.prog 15 #[.int .i64 3, vt, vl] w' fun e w'' => e = .returned (.bool true) ∧ Below w'.heap.size w' w'') := Lib.hid (fun w' hb => by
    have := tvalid_c (ht.keep hb) (hl.keep hb) 3
    rw [hv] at this
    exact this)
  have HBR := Lib.hid (fun l' h => break_of (L := L) (l := l') (least := least) hv h)
  obtain ⟨ra, hra⟩ : ∃ x, (breakS 3 L tied lots least).1 = x := ⟨_, rfl⟩
  obtain ⟨rb, hrb⟩ : ∃ x, (breakS 3 L tied lots least).2 = x := ⟨_, rfl⟩
  rw [hra, hrb] at HBR
  rw [hra, hrb]
  clear hra hrb hv hbl htne hbt htp hl7
  have CL : Hid (∀ w', Below w.heap.size w w' → Calls Try.prog 26 #[vt] w' fun e w'' => ∃ v', e = .returned v' ∧ IntsAt w'' v' tied ∧ Below w'.heap.size w' w'') := Lib.hid (fun w' hb => iclone_c (ht.keep hb) (by omega))
  obtain ⟨p2, c2, rfl⟩ := hL.shp
  obtain ⟨p3, c3, rfl⟩ := ht.shape
  obtain ⟨p4, c4, rfl⟩ := hl.shape
  obtain ⟨R, hR⟩ : ∃ R, roundsS 3 L = R := ⟨_, rfl⟩
  have HRR : Hid (R = [] ∧ True) := Lib.hid (by rw [← hR]; exact ⟨rfl, trivial⟩)
  rw [hR] at HBR
  obtain ⟨n, hn⟩ : ∃ n, L.length = n := ⟨_, rfl⟩
  obtain ⟨nt, hnt⟩ : ∃ n, tied.length = n := ⟨_, rfl⟩
  obtain ⟨nl, hnl⟩ : ∃ n, lots.length = n := ⟨_, rfl⟩
  have HN := Lib.hid hn
  have HNL : Hid (lots.length ≤ 1000) := Lib.hid h7
  have HNT : Hid (tied.length ≤ 1000) := Lib.hid h71
  rw [hn] at hLm HL
  rw [hn]
  rw [hnt] at CL HT TV
  rw [hnl] at HLO TV
  rw [hnt, hnl]
  obtain ⟨W, hW⟩ : ∃ W, w.alloc (.cells #[.slice p4 nl c4] 23) = W := ⟨_, rfl⟩
  have hBW : Below w.heap.size w W := by rw [← hW]; exact (Below.refl _ _).alloc (Nat.le_refl _) _
  have KW : W.cell? ⟨w.heap.size, 0, none⟩ = some (.slice p4 nl c4) := by rw [← hW]; exact (Blk.new w #[.slice p4 nl c4] 23).2.1 0
  have HKW := Lib.hid KW
  clear hL ht hl hR hn hnt hnl h7 h71 htlen
  go_enter Try.func13, Try.ntmps13
  go_wp2_with (first
    | (go_at_call 15; ((with_reducible refine (TV.out _ hBW).mono ?_); rintro e w1 ⟨rfl, hb1⟩; have hB1 := bel2' hBW hb1))
    | (go_at_call 26; ((with_reducible refine (CL.out _ hB1).mono ?_); rintro e w2 ⟨v2, rfl, hi2, hb2⟩; have hB2 := bel2' hb1 hb2)))
  go_loopw [12, 13] (fun lv iv wr => ∃ k : Nat, ∃ l : List Int, k ≤ n ∧ iv = .int .i64 k ∧ IntsAt wr lv l ∧ Below W.heap.size W wr ∧ Hid (l ≠ [] ∧ l.Sublist tied ∧ leftS least R tied = leftS least (R.drop k) l)) (fun _ iv _ => n - (intOf iv).toNat)
  case atStart => exact ⟨0, tied, by omega, rfl, hi2, hB2, Lib.hid ⟨HTNE.out, List.Sublist.refl _, rfl⟩⟩
  case round =>
    obtain ⟨k, l, hk, rfl, hI, hbel, hP⟩ := hrel
    have hbelw := bel2' hBW hbel
    obtain ⟨p1, c1, rfl⟩ := hI.shape
    obtain ⟨m, hm⟩ : ∃ n, l.length = n := ⟨_, rfl⟩
    have HM := Lib.hid hm
    have HI := Lib.hid hI
    rw [hm] at HI
    have hmle : m ≤ 1000 := by rw [← hm]; exact Nat.le_trans hP.out.2.1.length_le HNT.out
    have hm0 : 0 < m := by rw [← hm]; exact List.length_pos_iff.2 hP.out.1
    have hm0z : (0 : Int) < (m : Int) := by omega
    rw [hm]
    clear hI hm

    by_cases hk2 : k < n
    · have hkz : (k : Int) < (n : Int) := by omega
      have HE : Hid (leftS least R tied = l) := Lib.hid (lround_end (.inl (by rw [HRR.out.1]; simp)) hP.out.2.2)
      have hBR := HBR.out l HE.out
      rw [HM.out] at hBR
      by_cases hm1 : m = 1
      · subst hm1
        have HX : Hid (ra = l.getD 0 0 ∧ rb = false) := Lib.hid (by rw [← head_getD HM.out]; exact hBR.1 rfl)
        obtain ⟨bb, off, hp0, _, _, hcell⟩ := HI.out.cellAt 0 (by rw [HM.out]; omega)
        subst hp0
        have hcell : wr.cell? ⟨bb, off, none⟩ = some (.int .i64 (l.getD 0 0)) := hcell
        obtain ⟨x, hx⟩ : ∃ x, l.getD 0 0 = x := ⟨_, rfl⟩
        rw [hx] at hcell HX
        clear hBR hx
        go_wp2_with fail
        go_ret2
        exact ⟨ret_ib HX.out.1.symm HX.out.2.symm, hbelw⟩
      · have hmz : ((m : Int) == 1) = false := by rw [beq_eq_false_iff_ne]; omega
        have HX : Hid (ra = pickS lots least l ∧ rb = true) := Lib.hid (hBR.2 hm1)
        have MX : Hid (∀ w', Below W.heap.size W w' → Below wr.heap.size wr w' → least = true → Calls Try.prog 30 #[.slice p1 m c1, .func (.func 28) #[] #[.pointer (some ⟨w.heap.size, 0, none⟩)]] w' fun e w'' => e = .returned (.int .i64 (pickS lots true l)) ∧ Below w'.heap.size w' w'') := Lib.hid (fun w' hb hb' _ =>
          maxfunc_c (HI.out.keep hb') (cell_keep hb HKW.out) (HLO.out.keep (bel2' hBW hb)) HNL.out (by rw [HM.out]; omega) hP.out.1 (HND.out.sublist hP.out.2.1) (fun x hx => HSUB.out x (hP.out.2.1.subset hx)))
        have MN : Hid (∀ w', Below W.heap.size W w' → Below wr.heap.size wr w' → least = false → Calls Try.prog 31 #[.slice p1 m c1, .func (.func 28) #[] #[.pointer (some ⟨w.heap.size, 0, none⟩)]] w' fun e w'' => e = .returned (.int .i64 (pickS lots false l)) ∧ Below w'.heap.size w' w'') := Lib.hid (fun w' hb hb' _ =>
          minfunc_c (HI.out.keep hb') (cell_keep hb HKW.out) (HLO.out.keep (bel2' hBW hb)) HNL.out (by rw [HM.out]; omega) hP.out.1 (HND.out.sublist hP.out.2.1) (fun x hx => HSUB.out x (hP.out.2.1.subset hx)))
        clear hBR
        cases least
        · go_wp2_with (go_at_call 31; ((with_reducible refine (MN.out _ hbel (Below.refl _ _) rfl).mono ?_); rintro e w5 ⟨rfl, hb5⟩; have hB5 := bel2' hbelw hb5))
          go_ret2
          exact ⟨ret_ib HX.out.1.symm HX.out.2.symm, hB5⟩
        · go_wp2_with (go_at_call 30; ((with_reducible refine (MX.out _ hbel (Below.refl _ _) rfl).mono ?_); rintro e w5 ⟨rfl, hb5⟩; have hB5 := bel2' hbelw hb5))
          go_ret2
          exact ⟨ret_ib HX.out.1.symm HX.out.2.symm, hB5⟩

    · have hkz : ¬ (k : Int) < (n : Int) := by omega
      have HE : Hid (leftS least R tied = l) := Lib.hid (lround_end (.inl (by rw [HRR.out.1]; simp)) hP.out.2.2)
      have hBR := HBR.out l HE.out
      rw [HM.out] at hBR
      by_cases hm1 : m = 1
      · subst hm1
        have HX : Hid (ra = l.getD 0 0 ∧ rb = false) := Lib.hid (by rw [← head_getD HM.out]; exact hBR.1 rfl)
        obtain ⟨bb, off, hp0, _, _, hcell⟩ := HI.out.cellAt 0 (by rw [HM.out]; omega)
        subst hp0
        have hcell : wr.cell? ⟨bb, off, none⟩ = some (.int .i64 (l.getD 0 0)) := hcell
        obtain ⟨x, hx⟩ : ∃ x, l.getD 0 0 = x := ⟨_, rfl⟩
        rw [hx] at hcell HX
        clear hBR hx
        go_wp2_with fail
        go_ret2
        exact ⟨ret_ib HX.out.1.symm HX.out.2.symm, hbelw⟩
      · have hmz : ((m : Int) == 1) = false := by rw [beq_eq_false_iff_ne]; omega
        have HX : Hid (ra = pickS lots least l ∧ rb = true) := Lib.hid (hBR.2 hm1)
        have MX : Hid (∀ w', Below W.heap.size W w' → Below wr.heap.size wr w' → least = true → Calls Try.prog 30 #[.slice p1 m c1, .func (.func 28) #[] #[.pointer (some ⟨w.heap.size, 0, none⟩)]] w' fun e w'' => e = .returned (.int .i64 (pickS lots true l)) ∧ Below w'.heap.size w' w'') := Lib.hid (fun w' hb hb' _ =>
          maxfunc_c (HI.out.keep hb') (cell_keep hb HKW.out) (HLO.out.keep (bel2' hBW hb)) HNL.out (by rw [HM.out]; omega) hP.out.1 (HND.out.sublist hP.out.2.1) (fun x hx => HSUB.out x (hP.out.2.1.subset hx)))
        have MN : Hid (∀ w', Below W.heap.size W w' → Below wr.heap.size wr w' → least = false → Calls Try.prog 31 #[.slice p1 m c1, .func (.func 28) #[] #[.pointer (some ⟨w.heap.size, 0, none⟩)]] w' fun e w'' => e = .returned (.int .i64 (pickS lots false l)) ∧ Below w'.heap.size w' w'') := Lib.hid (fun w' hb hb' _ =>
          minfunc_c (HI.out.keep hb') (cell_keep hb HKW.out) (HLO.out.keep (bel2' hBW hb)) HNL.out (by rw [HM.out]; omega) hP.out.1 (HND.out.sublist hP.out.2.1) (fun x hx => HSUB.out x (hP.out.2.1.subset hx)))
        clear hBR
        cases least
        · go_wp2_with (go_at_call 31; ((with_reducible refine (MN.out _ hbel (Below.refl _ _) rfl).mono ?_); rintro e w5 ⟨rfl, hb5⟩; have hB5 := bel2' hbelw hb5))
          go_ret2
          exact ⟨ret_ib HX.out.1.symm HX.out.2.symm, hB5⟩
        · go_wp2_with (go_at_call 30; ((with_reducible refine (MX.out _ hbel (Below.refl _ _) rfl).mono ?_); rintro e w5 ⟨rfl, hb5⟩; have hB5 := bel2' hbelw hb5))
          go_ret2
          exact ⟨ret_ib HX.out.1.symm HX.out.2.symm, hB5⟩

set_option maxHeartbeats 2000000 in
theorem tbreak_c {ve vt vl : Value} {L : List (List Q)} {tied lots : List Int} {w : World} (hL : RoundsAt w ve L) (ht : IntsAt w vt tied) (hl : IntsAt w vl lots) (rule : Int) (least : Bool) :
    Calls Try.prog 13 #[.int .i64 rule, ve, vt, vl, .bool least] w fun e w' => e = .returned (.tuple #[.int .i64 (breakS rule L tied lots least).1, .bool (breakS rule L tied lots least).2]) ∧ Below w.heap.size w w' := by
  cases hv : validS rule tied lots
  · have TV : Hid (∀ w', Below w.heap.size w w' → Calls Try.prog 15 #[.int .i64 rule, vt, vl] w' fun e w'' => e = .returned (.bool false) ∧ Below w'.heap.size w' w'') := Lib.hid (fun w' hb => by
      have := tvalid_c (ht.keep hb) (hl.keep hb) rule
      rw [hv] at this
      exact this)
    rw [break_no hv]
    obtain ⟨p2, c2, rfl⟩ := hL.shp
    obtain ⟨p3, c3, rfl⟩ := ht.shape
    obtain ⟨p4, c4, rfl⟩ := hl.shape
    obtain ⟨n, hn⟩ : ∃ n, L.length = n := ⟨_, rfl⟩
    obtain ⟨nt, hnt⟩ : ∃ n, tied.length = n := ⟨_, rfl⟩
    obtain ⟨nl, hnl⟩ : ∃ n, lots.length = n := ⟨_, rfl⟩
    rw [hnt, hnl] at TV
    rw [hn, hnt, hnl]
    obtain ⟨W, hW⟩ : ∃ W, w.alloc (.cells #[.slice p4 nl c4] 23) = W := ⟨_, rfl⟩
    have hBW : Below w.heap.size w W := by rw [← hW]; exact (Below.refl _ _).alloc (Nat.le_refl _) _
    have KW : W.cell? ⟨w.heap.size, 0, none⟩ = some (.slice p4 nl c4) := by rw [← hW]; exact (Blk.new w #[.slice p4 nl c4] 23).2.1 0
    clear hL ht hl hn hnt hnl hv
    go_enter Try.func13, Try.ntmps13
    go_wp2_with (go_at_call 15; ((with_reducible refine (TV.out _ hBW).mono ?_); rintro e w1 ⟨rfl, hb1⟩; have hB1 := bel2' hBW hb1))
    go_ret2
    exact ⟨rfl, hB1⟩
  · have h := (valid_eq _ _ _).1 hv
    rcases (by omega : rule = 1 ∨ rule = 2 ∨ rule = 3) with rfl | rfl | rfl
    · exact tbreak_1 hL ht hl least hv
    · exact tbreak_2 hL ht hl least hv
    · exact tbreak_3 hL ht hl least hv

end Go.Proofs.Ythplbhgbgcfogaa
