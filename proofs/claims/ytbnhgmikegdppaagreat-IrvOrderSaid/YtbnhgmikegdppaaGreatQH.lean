/- Contracts and plain facts, part 8: T13, T15, R11, R13a, R12b, T16, T3. No condition beyond those that each theorem states. -/
import Derived.Test.YtbnhgmikegdppaaGreatQG
import Derived.Deep.RegionHeld3
/- tie.Break and the reference's Break: both are breakS. -/
namespace Go.Proofs.Nums

theorem nodup_len : ∀ (n : Nat) (l : List Int), l.Nodup → (∀ x ∈ l, 0 ≤ x ∧ x < (n : Int)) → l.length ≤ n := by
  intro n
  induction n with
  | zero =>
    intro l _ h
    cases l with
    | nil => exact Nat.le_refl _
    | cons a t => have := h a (by simp); omega
  | succ n ih =>
    intro l hn h
    by_cases hm : (n : Int) ∈ l
    · have h1 := ih (l.erase n) (hn.erase _) (fun x hx => by
        have := (hn.mem_erase_iff).1 hx
        have := h x this.2
        have := ‹x ≠ n ∧ x ∈ l›.1
        omega)
      rw [List.length_erase_of_mem hm] at h1
      omega
    · have h1 := ih l hn (fun x hx => by
        have := h x hx
        have : x ≠ n := fun e => hm (e ▸ hx)
        omega)
      omega
theorem bal_mem {l : List Int} (h : BalP l.length l) {c : Int} (h0 : 0 ≤ c) (h1 : c < l.length) : c ∈ l := by
  refine Classical.byContradiction fun hn => ?_
  have := nodup_len l.length (c :: l) (List.nodup_cons.2 ⟨hn, h.2⟩) (fun x hx => by
    rcases List.mem_cons.1 hx with g | g
    · rw [g]; exact ⟨h0, h1⟩
    · exact h.1 x g)
  simp at this
  omega
theorem drop_cons {α : Type} {l : List α} {k : Nat} {d : α} (h : k < l.length) : l.drop k = l.getD k d :: l.drop (k + 1) := by
  rw [List.drop_eq_getElem_cons h, List.getD_eq_getElem?_getD, List.getElem?_eq_getElem h]; rfl
theorem rev_get {α : Type} {l : List α} {k j : Nat} {d : α} (h : j + 1 + k = l.length) : l.reverse.getD k d = l.getD j d := by
  rw [List.getD_eq_getElem?_getD, List.getD_eq_getElem?_getD, List.getElem?_reverse (by omega), show l.length - 1 - k = j by omega]
theorem lround_step {least : Bool} {R : List (List Q)} {tied l : List Int} {k : Nat} {v : List Q} (h : k < R.length) (hv : R.getD k [] = v) (hP : leftS least R tied = leftS least (R.drop k) l) (hl : 1 < l.length) : leftS least R tied = leftS least (R.drop (k + 1)) (extA (ltV v least) l) := by
  rw [hP, drop_cons (d := []) h, hv, leftS, if_pos hl]
theorem lround_skip {least : Bool} {R : List (List Q)} {tied l : List Int} {k : Nat} (h : k < R.length) (hP : leftS least R tied = leftS least (R.drop k) l) (hl : ¬ 1 < l.length) : leftS least R tied = leftS least (R.drop (k + 1)) l := by
  rw [hP, drop_cons (d := []) h, leftS, if_neg hl]
theorem lround_end {least : Bool} {R : List (List Q)} {tied l : List Int} {k : Nat} (h : ¬ k < R.length ∨ ¬ 1 < l.length) (hP : leftS least R tied = leftS least (R.drop k) l) : leftS least R tied = l := by
  rw [hP]
  by_cases h1 : k < R.length
  · exact leftS_one _ _ (by rcases h with g | g; exact absurd h1 g; exact g)
  · rw [List.drop_eq_nil_of_le (by omega)]; rfl
theorem break_of {rule : Int} {L : List (List Q)} {tied lots l : List Int} {least : Bool} (hv : validS rule tied lots = true) (h : leftS least (roundsS rule L) tied = l) :
    (l.length = 1 → (breakS rule L tied lots least).1 = l.headD 0 ∧ (breakS rule L tied lots least).2 = false) ∧ (l.length ≠ 1 → (breakS rule L tied lots least).1 = pickS lots least l ∧ (breakS rule L tied lots least).2 = true) := by
  unfold breakS
  rw [if_pos hv]
  simp only [h]
  exact ⟨fun g => by rw [if_pos g]; exact ⟨rfl, rfl⟩, fun g => by rw [if_neg g]; exact ⟨rfl, rfl⟩⟩
theorem break_no {rule : Int} {L : List (List Q)} {tied lots : List Int} {least : Bool} (hv : validS rule tied lots = false) : breakS rule L tied lots least = (-1, false) := by
  unfold breakS
  rw [if_neg (by rw [hv]; decide)]
theorem head_getD {l : List Int} (h : l.length = 1) : l.headD 0 = l.getD 0 0 := by
  cases l with
  | nil => simp at h
  | cons a t => rfl

end Go.Proofs.Nums
namespace Go.Proofs.YtbnhgmikegdppaaGreat
open Go.RowKit Go.Proofs.Kit Go.Proofs.Nums

theorem ret_ib {a b : Int} {c d : Bool} (h : a = b) (g : c = d) : Ending.returned (.tuple #[.int .i64 a, .bool c]) = .returned (.tuple #[.int .i64 b, .bool d]) := by rw [h, g]
/-- The one cell of a round: its row of votes. -/
def rowR (w : World) (c : List Value) (l : List Q) : Prop := ∃ u, c = [u] ∧ RatsAt w u l
def RoundsAt (w : World) (v : Value) (L : List (List Q)) : Prop := SliceOf rowR 1 w v L
theorem RoundsAt.keep {w w' : World} {v : Value} {L : List (List Q)} (h : RoundsAt w v L) (hb : Below w.heap.size w w') : RoundsAt w' v L := SliceOf.keep h hb fun _ _ ⟨u, h1, h2⟩ => ⟨u, h1, h2.keep hb⟩
theorem RoundsAt.shp {w : World} {v : Value} {L : List (List Q)} (h : RoundsAt w v L) : ∃ p c, v = .slice p L.length c := by
  obtain ⟨p, c, h1, _⟩ := SliceOf.shape h
  exact ⟨p, c, h1⟩
theorem RoundsAt.cellAt {w : World} {p : Option Addr} {n c : Nat} {L : List (List Q)} (h : RoundsAt w (.slice p n c) L) {k : Nat} (hk : k < L.length) {v : List Q} (hv : L.getD k [] = v) :
    ∃ b off u, p = some ⟨b, off, none⟩ ∧ L.length ≤ c ∧ c ≤ 9223372036854775807 ∧ w.cell? ⟨b, off + k, none⟩ = some u ∧ RatsAt w u v := by
  obtain ⟨b, off, cap, cs, hv2, h1, h2, h3, h4, h5⟩ := SliceOf.at_ (by decide) h hk
  simp only [Value.slice.injEq] at hv2
  obtain ⟨rfl, _, rfl⟩ := hv2
  have e : L[k] = v := by rw [← hv, List.getD_eq_getElem?_getD, List.getElem?_eq_getElem hk]; rfl
  rw [e] at h4
  obtain ⟨u, rfl, g⟩ := h4
  have := h5 0 u rfl
  rw [Nat.mul_one, Nat.add_zero] at this
  exact ⟨b, off, u, rfl, h1, h2, this, g⟩
/-- A round is a slice. -/
theorem RatsAt.sl {w : World} {v : Value} {l : List Q} (h : RatsAt w v l) : ∃ p n c, v = .slice p n c := by
  obtain ⟨p, c, e⟩ := h.shp
  exact ⟨p, _, c, e⟩

set_option maxRecDepth 100000 in
set_option maxHeartbeats 8000000 in
theorem tbreak_1 {ve vt vl : Value} {L : List (List Q)} {tied lots : List Int} {w : World} (hL : RoundsAt w ve L) (ht : IntsAt w vt tied) (hl : IntsAt w vl lots) (least : Bool) (hv : validS 1 tied lots = true) :
    Calls Tryz.prog 53 #[.int .i64 1, ve, vt, vl, .bool least] w fun e w' => e = .returned (.tuple #[.int .i64 (breakS 1 L tied lots least).1, .bool (breakS 1 L tied lots least).2]) ∧ Below w.heap.size w w' := by
  obtain ⟨⟨_, _, _, hl7⟩, hbl, htne, hbt, htp⟩ := (valid_eq _ _ _).1 hv
  have htlen := nodup_len _ _ hbt.2 hbt.1
  have hLm : L.length ≤ 9223372036854775807 := SliceOf.len hL
  have HL := Lib.hid hL
  have HT := Lib.hid ht
  have HLO := Lib.hid hl
  have HSUB : Hid (∀ x ∈ tied, x ∈ lots) := Lib.hid (fun x hx => bal_mem hbl (hbt.1 x hx).1 (hbt.1 x hx).2)
  have HRG : Hid (∀ x ∈ tied, 0 ≤ x ∧ x < 1000) := Lib.hid (fun x hx => by have := hbt.1 x hx; omega)
  have HND := Lib.hid hbt.2
  have HTNE := Lib.hid htne
  have h7 : lots.length ≤ 1000 := by omega
  have h71 : tied.length ≤ 1000 := by omega
  have TV : Hid (∀ w', Below w.heap.size w w' → Calls Tryz.prog 71 #[.int .i64 1, vt, vl] w' fun e w'' => e = .returned (.bool true) ∧ Below w'.heap.size w' w'') := Lib.hid (fun w' hb => by
    have := tvalid_c (ht.keep hb) (hl.keep hb) 1
    rw [hv] at this
    exact this)
  have HBR := Lib.hid (fun l' h => break_of (L := L) (l := l') (least := least) hv h)
  obtain ⟨ra, hra⟩ : ∃ x, (breakS 1 L tied lots least).1 = x := ⟨_, rfl⟩
  obtain ⟨rb, hrb⟩ : ∃ x, (breakS 1 L tied lots least).2 = x := ⟨_, rfl⟩
  rw [hra, hrb] at HBR
  rw [hra, hrb]
  clear hra hrb hv hbl htne hbt htp hl7
  have CL : Hid (∀ w', Below w.heap.size w w' → Calls Tryz.prog 72 #[vt] w' fun e w'' => ∃ v', e = .returned v' ∧ IntsAt w'' v' tied ∧ Below w'.heap.size w' w'') := Lib.hid (fun w' hb => iclone_c (ht.keep hb) (by omega))
  obtain ⟨p2, c2, rfl⟩ := hL.shp
  obtain ⟨p3, c3, rfl⟩ := ht.shape
  obtain ⟨p4, c4, rfl⟩ := hl.shape
  obtain ⟨R, hR⟩ : ∃ R, roundsS 1 L = R := ⟨_, rfl⟩
  have HRR : Hid (R.length = L.length ∧ R = L.reverse) := Lib.hid (by rw [← hR]; exact ⟨List.length_reverse, rfl⟩)
  rw [hR] at HBR
  obtain ⟨n, hn⟩ : ∃ n, L.length = n := ⟨_, rfl⟩
  obtain ⟨nt, hnt⟩ : ∃ n, tied.length = n := ⟨_, rfl⟩
  obtain ⟨nl, hnl⟩ : ∃ n, lots.length = n := ⟨_, rfl⟩
  have HN := Lib.hid hn
  have HNL : Hid (lots.length ≤ 1000) := Lib.hid h7
  have HNT : Hid (tied.length ≤ 1000) := Lib.hid h71
  rw [hn] at hLm HL
  rw [hn]
  rw [hnt] at CL HT TV
  rw [hnl] at HLO TV
  rw [hnt, hnl]
  obtain ⟨W, hW⟩ : ∃ W, w.alloc (.cells #[.slice p4 nl c4] 26) = W := ⟨_, rfl⟩
  have hBW : Below w.heap.size w W := by rw [← hW]; exact (Below.refl _ _).alloc (Nat.le_refl _) _
  have KW : W.cell? ⟨w.heap.size, 0, none⟩ = some (.slice p4 nl c4) := by rw [← hW]; exact (Blk.new w #[.slice p4 nl c4] 26).2.1 0
  have HKW := Lib.hid KW
  clear hL ht hl hR hn hnt hnl h7 h71 htlen
  go_enter Tryz.func53, Tryz.ntmps53
  go_wp2_with (first
    | (go_at_call 71; ((with_reducible refine (TV.out _ hBW).mono ?_); rintro e w1 ⟨rfl, hb1⟩; have hB1 := bel2' hBW hb1))
    | (go_at_call 72; ((with_reducible refine (CL.out _ hB1).mono ?_); rintro e w2 ⟨v2, rfl, hi2, hb2⟩; have hB2 := bel2' hb1 hb2)))
  go_loopw [12, 13] (fun lv iv wr => ∃ k : Nat, ∃ l : List Int, k ≤ n ∧ iv = .int .i64 k ∧ IntsAt wr lv l ∧ Below W.heap.size W wr ∧ Hid (l ≠ [] ∧ l.Sublist tied ∧ leftS least R tied = leftS least (R.drop k) l)) (fun _ iv _ => n - (intOf iv).toNat)
  case atStart => exact ⟨0, tied, by omega, rfl, hi2, hB2, Lib.hid ⟨HTNE.out, List.Sublist.refl _, rfl⟩⟩
  case round =>
    obtain ⟨k, l, hk, rfl, hI, hbel, hP⟩ := hrel
    have hbelw := bel2' hBW hbel
    obtain ⟨p1, c1, rfl⟩ := hI.shape
    obtain ⟨m, hm⟩ : ∃ n, l.length = n := ⟨_, rfl⟩
    have HM := Lib.hid hm
    have HI := Lib.hid hI
    rw [hm] at HI
    have hmle : m ≤ 1000 := by rw [← hm]; exact Nat.le_trans hP.out.2.1.length_le HNT.out
    have hm0 : 0 < m := by rw [← hm]; exact List.length_pos_iff.2 hP.out.1
    have hm0z : (0 : Int) < (m : Int) := by omega
    rw [hm]
    clear hI hm
    by_cases hgo : k < n ∧ 1 < m
    · obtain ⟨hkn, hm1⟩ := hgo
      have hkz : (k : Int) < (n : Int) := by omega
      have hmz : (1 : Int) < (m : Int) := by omega
      obtain ⟨n1, hn1⟩ : ∃ n1 : Nat, n1 + 1 = n := ⟨n - 1, by omega⟩
      obtain ⟨j, hj⟩ : ∃ j : Nat, j + k = n1 := ⟨n1 - k, by omega⟩
      have en1 : (n : Int) - 1 = (n1 : Int) := by omega
      have ej : (n1 : Int) - (k : Int) = (j : Int) := by omega
      have en2 : IntKind.i64.wrap (n1 : Int) = (n1 : Int) := w64 (by omega) (by omega)
      have ej2 : IntKind.i64.wrap (j : Int) = (j : Int) := w64 (by omega) (by omega)
      have hjn : j < n := by omega
      have hjz : (j : Int) < (n : Int) := by omega
      obtain ⟨v, hv⟩ : ∃ v, L.getD j [] = v := ⟨_, rfl⟩
      obtain ⟨bb, off, u, hp0, hcc, hcm, hcell, hrow⟩ := (HL.out.keep hbelw).cellAt (k := j) (by rw [HN.out]; omega) hv
      subst hp0
      obtain ⟨bb2, off2, u2, hp2, _, _, hcellk, hrow2⟩ := (HL.out.keep hbelw).cellAt (k := k) (by rw [HN.out]; omega) rfl
      simp only [Option.some.injEq, Addr.mk.injEq, and_true] at hp2
      obtain ⟨rfl, rfl⟩ := hp2
      have HRK : Hid (R.getD k [] = v) := Lib.hid (by rw [← hv]; rw [HRR.out.2, rev_get (j := j) (by rw [HN.out]; omega)])
      have HST := Lib.hid (lround_step (by rw [HRR.out.1, HN.out]; exact hkn) HRK.out hP.out.2.2 (by rw [HM.out]; exact hm1))
      have HNE : Hid (extA (ltV v least) l ≠ []) := Lib.hid (extA_ne' (ltV_swo hrow.shs least) hP.out.1)
      have HS2 : Hid ((extA (ltV v least) l).Sublist tied) := Lib.hid (extA_sub.trans hP.out.2.1)
      have EX := Lib.hid (extremes_c hrow HI.out (fun x hx => HRG.out x (hP.out.2.1.subset hx)) (by rw [HM.out]; omega) least)
      obtain ⟨pr, nr, cr, rfl⟩ := hrow.sl
      obtain ⟨pr2, nr2, cr2, rfl⟩ := hrow2.sl
      clear hv hrow hrow2
      go_wp2_with (go_at_call 73; ((with_reducible refine EX.out.mono ?_); rintro e w5 ⟨v5, rfl, hi5, hb5⟩; have hB5 := bel2' hbel hb5))
      go_roundw
      case rel => exact ⟨k + 1, _, by omega, by go_num, hi5, hB5, Lib.hid ⟨HNE.out, HS2.out, HST.out⟩⟩
      case measure => simp [intOf] <;> omega
    by_cases hk2 : k < n
    · have hkz : (k : Int) < (n : Int) := by omega
      have hmz : ¬ (1 : Int) < (m : Int) := by
        have : ¬ 1 < m := fun g => hgo ⟨hk2, g⟩
        omega
      have HE : Hid (leftS least R tied = l) := Lib.hid (lround_end (by rw [HRR.out.1, HN.out, HM.out]; omega) hP.out.2.2)
      have hBR := HBR.out l HE.out
      rw [HM.out] at hBR
      by_cases hm1 : m = 1
      · subst hm1
        have HX : Hid (ra = l.getD 0 0 ∧ rb = false) := Lib.hid (by rw [← head_getD HM.out]; exact hBR.1 rfl)
        obtain ⟨bb, off, hp0, _, _, hcell⟩ := HI.out.cellAt 0 (by rw [HM.out]; omega)
        subst hp0
        have hcell : wr.cell? ⟨bb, off, none⟩ = some (.int .i64 (l.getD 0 0)) := hcell
        obtain ⟨x, hx⟩ : ∃ x, l.getD 0 0 = x := ⟨_, rfl⟩
        rw [hx] at hcell HX
        clear hBR hx
        go_wp2_with fail
        go_ret2
        exact ⟨ret_ib HX.out.1.symm HX.out.2.symm, hbelw⟩
      · have hmz : ((m : Int) == 1) = false := by rw [beq_eq_false_iff_ne]; omega
        have HX : Hid (ra = pickS lots least l ∧ rb = true) := Lib.hid (hBR.2 hm1)
        have MX : Hid (∀ w', Below W.heap.size W w' → Below wr.heap.size wr w' → least = true → Calls Tryz.prog 76 #[.slice p1 m c1, .func (.func 74) #[] #[.pointer (some ⟨w.heap.size, 0, none⟩)]] w' fun e w'' => e = .returned (.int .i64 (pickS lots true l)) ∧ Below w'.heap.size w' w'') := Lib.hid (fun w' hb hb' _ =>
          maxfunc_c (HI.out.keep hb') (cell_keep hb HKW.out) (HLO.out.keep (bel2' hBW hb)) HNL.out (by rw [HM.out]; omega) hP.out.1 (HND.out.sublist hP.out.2.1) (fun x hx => HSUB.out x (hP.out.2.1.subset hx)))
        have MN : Hid (∀ w', Below W.heap.size W w' → Below wr.heap.size wr w' → least = false → Calls Tryz.prog 77 #[.slice p1 m c1, .func (.func 74) #[] #[.pointer (some ⟨w.heap.size, 0, none⟩)]] w' fun e w'' => e = .returned (.int .i64 (pickS lots false l)) ∧ Below w'.heap.size w' w'') := Lib.hid (fun w' hb hb' _ =>
          minfunc_c (HI.out.keep hb') (cell_keep hb HKW.out) (HLO.out.keep (bel2' hBW hb)) HNL.out (by rw [HM.out]; omega) hP.out.1 (HND.out.sublist hP.out.2.1) (fun x hx => HSUB.out x (hP.out.2.1.subset hx)))
        clear hBR
        cases least
        · go_wp2_with (go_at_call 77; ((with_reducible refine (MN.out _ hbel (Below.refl _ _) rfl).mono ?_); rintro e w5 ⟨rfl, hb5⟩; have hB5 := bel2' hbelw hb5))
          go_ret2
          exact ⟨ret_ib HX.out.1.symm HX.out.2.symm, hB5⟩
        · go_wp2_with (go_at_call 76; ((with_reducible refine (MX.out _ hbel (Below.refl _ _) rfl).mono ?_); rintro e w5 ⟨rfl, hb5⟩; have hB5 := bel2' hbelw hb5))
          go_ret2
          exact ⟨ret_ib HX.out.1.symm HX.out.2.symm, hB5⟩

    · have hkz : ¬ (k : Int) < (n : Int) := by omega
      have HE : Hid (leftS least R tied = l) := Lib.hid (lround_end (by rw [HRR.out.1, HN.out, HM.out]; omega) hP.out.2.2)
      have hBR := HBR.out l HE.out
      rw [HM.out] at hBR
      by_cases hm1 : m = 1
      · subst hm1
        have HX : Hid (ra = l.getD 0 0 ∧ rb = false) := Lib.hid (by rw [← head_getD HM.out]; exact hBR.1 rfl)
        obtain ⟨bb, off, hp0, _, _, hcell⟩ := HI.out.cellAt 0 (by rw [HM.out]; omega)
        subst hp0
        have hcell : wr.cell? ⟨bb, off, none⟩ = some (.int .i64 (l.getD 0 0)) := hcell
        obtain ⟨x, hx⟩ : ∃ x, l.getD 0 0 = x := ⟨_, rfl⟩
        rw [hx] at hcell HX
        clear hBR hx
        go_wp2_with fail
        go_ret2
        exact ⟨ret_ib HX.out.1.symm HX.out.2.symm, hbelw⟩
      · have hmz : ((m : Int) == 1) = false := by rw [beq_eq_false_iff_ne]; omega
        have HX : Hid (ra = pickS lots least l ∧ rb = true) := Lib.hid (hBR.2 hm1)
        have MX : Hid (∀ w', Below W.heap.size W w' → Below wr.heap.size wr w' → least = true → Calls Tryz.prog 76 #[.slice p1 m c1, .func (.func 74) #[] #[.pointer (some ⟨w.heap.size, 0, none⟩)]] w' fun e w'' => e = .returned (.int .i64 (pickS lots true l)) ∧ Below w'.heap.size w' w'') := Lib.hid (fun w' hb hb' _ =>
          maxfunc_c (HI.out.keep hb') (cell_keep hb HKW.out) (HLO.out.keep (bel2' hBW hb)) HNL.out (by rw [HM.out]; omega) hP.out.1 (HND.out.sublist hP.out.2.1) (fun x hx => HSUB.out x (hP.out.2.1.subset hx)))
        have MN : Hid (∀ w', Below W.heap.size W w' → Below wr.heap.size wr w' → least = false → Calls Tryz.prog 77 #[.slice p1 m c1, .func (.func 74) #[] #[.pointer (some ⟨w.heap.size, 0, none⟩)]] w' fun e w'' => e = .returned (.int .i64 (pickS lots false l)) ∧ Below w'.heap.size w' w'') := Lib.hid (fun w' hb hb' _ =>
          minfunc_c (HI.out.keep hb') (cell_keep hb HKW.out) (HLO.out.keep (bel2' hBW hb)) HNL.out (by rw [HM.out]; omega) hP.out.1 (HND.out.sublist hP.out.2.1) (fun x hx => HSUB.out x (hP.out.2.1.subset hx)))
        clear hBR
        cases least
        · go_wp2_with (go_at_call 77; ((with_reducible refine (MN.out _ hbel (Below.refl _ _) rfl).mono ?_); rintro e w5 ⟨rfl, hb5⟩; have hB5 := bel2' hbelw hb5))
          go_ret2
          exact ⟨ret_ib HX.out.1.symm HX.out.2.symm, hB5⟩
        · go_wp2_with (go_at_call 76; ((with_reducible refine (MX.out _ hbel (Below.refl _ _) rfl).mono ?_); rintro e w5 ⟨rfl, hb5⟩; have hB5 := bel2' hbelw hb5))
          go_ret2
          exact ⟨ret_ib HX.out.1.symm HX.out.2.symm, hB5⟩

set_option maxRecDepth 100000 in
set_option maxHeartbeats 8000000 in
theorem tbreak_2 {ve vt vl : Value} {L : List (List Q)} {tied lots : List Int} {w : World} (hL : RoundsAt w ve L) (ht : IntsAt w vt tied) (hl : IntsAt w vl lots) (least : Bool) (hv : validS 2 tied lots = true) :
    Calls Tryz.prog 53 #[.int .i64 2, ve, vt, vl, .bool least] w fun e w' => e = .returned (.tuple #[.int .i64 (breakS 2 L tied lots least).1, .bool (breakS 2 L tied lots least).2]) ∧ Below w.heap.size w w' := by
  obtain ⟨⟨_, _, _, hl7⟩, hbl, htne, hbt, htp⟩ := (valid_eq _ _ _).1 hv
  have htlen := nodup_len _ _ hbt.2 hbt.1
  have hLm : L.length ≤ 9223372036854775807 := SliceOf.len hL
  have HL := Lib.hid hL
  have HT := Lib.hid ht
  have HLO := Lib.hid hl
  have HSUB : Hid (∀ x ∈ tied, x ∈ lots) := Lib.hid (fun x hx => bal_mem hbl (hbt.1 x hx).1 (hbt.1 x hx).2)
  have HRG : Hid (∀ x ∈ tied, 0 ≤ x ∧ x < 1000) := Lib.hid (fun x hx => by have := hbt.1 x hx; omega)
  have HND := Lib.hid hbt.2
  have HTNE := Lib.hid htne
  have h7 : lots.length ≤ 1000 := by omega
  have h71 : tied.length ≤ 1000 := by omega
  have TV : Hid (∀ w', Below w.heap.size w w' → Calls Tryz.prog 71 #[.int .i64 2, vt, vl] w' fun e w'' => e = .returned (.bool true) ∧ Below w'.heap.size w' w'') := Lib.hid (fun w' hb => by
    have := tvalid_c (ht.keep hb) (hl.keep hb) 2
    rw [hv] at this
    exact this)
  have HBR := Lib.hid (fun l' h => break_of (L := L) (l := l') (least := least) hv h)
  obtain ⟨ra, hra⟩ : ∃ x, (breakS 2 L tied lots least).1 = x := ⟨_, rfl⟩
  obtain ⟨rb, hrb⟩ : ∃ x, (breakS 2 L tied lots least).2 = x := ⟨_, rfl⟩
  rw [hra, hrb] at HBR
  rw [hra, hrb]
  clear hra hrb hv hbl htne hbt htp hl7
  have CL : Hid (∀ w', Below w.heap.size w w' → Calls Tryz.prog 72 #[vt] w' fun e w'' => ∃ v', e = .returned v' ∧ IntsAt w'' v' tied ∧ Below w'.heap.size w' w'') := Lib.hid (fun w' hb => iclone_c (ht.keep hb) (by omega))
  obtain ⟨p2, c2, rfl⟩ := hL.shp
  obtain ⟨p3, c3, rfl⟩ := ht.shape
  obtain ⟨p4, c4, rfl⟩ := hl.shape
  obtain ⟨R, hR⟩ : ∃ R, roundsS 2 L = R := ⟨_, rfl⟩
  have HRR : Hid (R.length = L.length ∧ R = L) := Lib.hid (by rw [← hR]; exact ⟨rfl, rfl⟩)
  rw [hR] at HBR
  obtain ⟨n, hn⟩ : ∃ n, L.length = n := ⟨_, rfl⟩
  obtain ⟨nt, hnt⟩ : ∃ n, tied.length = n := ⟨_, rfl⟩
  obtain ⟨nl, hnl⟩ : ∃ n, lots.length = n := ⟨_, rfl⟩
  have HN := Lib.hid hn
  have HNL : Hid (lots.length ≤ 1000) := Lib.hid h7
  have HNT : Hid (tied.length ≤ 1000) := Lib.hid h71
  rw [hn] at hLm HL
  rw [hn]
  rw [hnt] at CL HT TV
  rw [hnl] at HLO TV
  rw [hnt, hnl]
  obtain ⟨W, hW⟩ : ∃ W, w.alloc (.cells #[.slice p4 nl c4] 26) = W := ⟨_, rfl⟩
  have hBW : Below w.heap.size w W := by rw [← hW]; exact (Below.refl _ _).alloc (Nat.le_refl _) _
  have KW : W.cell? ⟨w.heap.size, 0, none⟩ = some (.slice p4 nl c4) := by rw [← hW]; exact (Blk.new w #[.slice p4 nl c4] 26).2.1 0
  have HKW := Lib.hid KW
  clear hL ht hl hR hn hnt hnl h7 h71 htlen
  go_enter Tryz.func53, Tryz.ntmps53
  go_wp2_with (first
    | (go_at_call 71; ((with_reducible refine (TV.out _ hBW).mono ?_); rintro e w1 ⟨rfl, hb1⟩; have hB1 := bel2' hBW hb1))
    | (go_at_call 72; ((with_reducible refine (CL.out _ hB1).mono ?_); rintro e w2 ⟨v2, rfl, hi2, hb2⟩; have hB2 := bel2' hb1 hb2)))
  go_loopw [12, 13] (fun lv iv wr => ∃ k : Nat, ∃ l : List Int, k ≤ n ∧ iv = .int .i64 k ∧ IntsAt wr lv l ∧ Below W.heap.size W wr ∧ Hid (l ≠ [] ∧ l.Sublist tied ∧ leftS least R tied = leftS least (R.drop k) l)) (fun _ iv _ => n - (intOf iv).toNat)
  case atStart => exact ⟨0, tied, by omega, rfl, hi2, hB2, Lib.hid ⟨HTNE.out, List.Sublist.refl _, rfl⟩⟩
  case round =>
    obtain ⟨k, l, hk, rfl, hI, hbel, hP⟩ := hrel
    have hbelw := bel2' hBW hbel
    obtain ⟨p1, c1, rfl⟩ := hI.shape
    obtain ⟨m, hm⟩ : ∃ n, l.length = n := ⟨_, rfl⟩
    have HM := Lib.hid hm
    have HI := Lib.hid hI
    rw [hm] at HI
    have hmle : m ≤ 1000 := by rw [← hm]; exact Nat.le_trans hP.out.2.1.length_le HNT.out
    have hm0 : 0 < m := by rw [← hm]; exact List.length_pos_iff.2 hP.out.1
    have hm0z : (0 : Int) < (m : Int) := by omega
    rw [hm]
    clear hI hm
    by_cases hgo : k < n ∧ 1 < m
    · obtain ⟨hkn, hm1⟩ := hgo
      have hkz : (k : Int) < (n : Int) := by omega
      have hmz : (1 : Int) < (m : Int) := by omega
      obtain ⟨v, hv⟩ : ∃ v, L.getD k [] = v := ⟨_, rfl⟩
      obtain ⟨bb, off, u, hp0, hcc, hcm, hcell, hrow⟩ := (HL.out.keep hbelw).cellAt (k := k) (by rw [HN.out]; omega) hv
      subst hp0
      obtain ⟨bb2, off2, u2, hp2, _, _, hcellk, hrow2⟩ := (HL.out.keep hbelw).cellAt (k := k) (by rw [HN.out]; omega) rfl
      simp only [Option.some.injEq, Addr.mk.injEq, and_true] at hp2
      obtain ⟨rfl, rfl⟩ := hp2
      have HRK : Hid (R.getD k [] = v) := Lib.hid (by rw [← hv]; rw [HRR.out.2])
      have HST := Lib.hid (lround_step (by rw [HRR.out.1, HN.out]; exact hkn) HRK.out hP.out.2.2 (by rw [HM.out]; exact hm1))
      have HNE : Hid (extA (ltV v least) l ≠ []) := Lib.hid (extA_ne' (ltV_swo hrow.shs least) hP.out.1)
      have HS2 : Hid ((extA (ltV v least) l).Sublist tied) := Lib.hid (extA_sub.trans hP.out.2.1)
      have EX := Lib.hid (extremes_c hrow HI.out (fun x hx => HRG.out x (hP.out.2.1.subset hx)) (by rw [HM.out]; omega) least)
      obtain ⟨pr, nr, cr, rfl⟩ := hrow.sl
      obtain ⟨pr2, nr2, cr2, rfl⟩ := hrow2.sl
      clear hv hrow hrow2
      go_wp2_with (go_at_call 73; ((with_reducible refine EX.out.mono ?_); rintro e w5 ⟨v5, rfl, hi5, hb5⟩; have hB5 := bel2' hbel hb5))
      go_roundw
      case rel => exact ⟨k + 1, _, by omega, by go_num, hi5, hB5, Lib.hid ⟨HNE.out, HS2.out, HST.out⟩⟩
      case measure => simp [intOf] <;> omega
    by_cases hk2 : k < n
    · have hkz : (k : Int) < (n : Int) := by omega
      have hmz : ¬ (1 : Int) < (m : Int) := by
        have : ¬ 1 < m := fun g => hgo ⟨hk2, g⟩
        omega
      have HE : Hid (leftS least R tied = l) := Lib.hid (lround_end (by rw [HRR.out.1, HN.out, HM.out]; omega) hP.out.2.2)
      have hBR := HBR.out l HE.out
      rw [HM.out] at hBR
      by_cases hm1 : m = 1
      · subst hm1
        have HX : Hid (ra = l.getD 0 0 ∧ rb = false) := Lib.hid (by rw [← head_getD HM.out]; exact hBR.1 rfl)
        obtain ⟨bb, off, hp0, _, _, hcell⟩ := HI.out.cellAt 0 (by rw [HM.out]; omega)
        subst hp0
        have hcell : wr.cell? ⟨bb, off, none⟩ = some (.int .i64 (l.getD 0 0)) := hcell
        obtain ⟨x, hx⟩ : ∃ x, l.getD 0 0 = x := ⟨_, rfl⟩
        rw [hx] at hcell HX
        clear hBR hx
        go_wp2_with fail
        go_ret2
        exact ⟨ret_ib HX.out.1.symm HX.out.2.symm, hbelw⟩
      · have hmz : ((m : Int) == 1) = false := by rw [beq_eq_false_iff_ne]; omega
        have HX : Hid (ra = pickS lots least l ∧ rb = true) := Lib.hid (hBR.2 hm1)
        have MX : Hid (∀ w', Below W.heap.size W w' → Below wr.heap.size wr w' → least = true → Calls Tryz.prog 76 #[.slice p1 m c1, .func (.func 74) #[] #[.pointer (some ⟨w.heap.size, 0, none⟩)]] w' fun e w'' => e = .returned (.int .i64 (pickS lots true l)) ∧ Below w'.heap.size w' w'') := Lib.hid (fun w' hb hb' _ =>
          maxfunc_c (HI.out.keep hb') (cell_keep hb HKW.out) (HLO.out.keep (bel2' hBW hb)) HNL.out (by rw [HM.out]; omega) hP.out.1 (HND.out.sublist hP.out.2.1) (fun x hx => HSUB.out x (hP.out.2.1.subset hx)))
        have MN : Hid (∀ w', Below W.heap.size W w' → Below wr.heap.size wr w' → least = false → Calls Tryz.prog 77 #[.slice p1 m c1, .func (.func 74) #[] #[.pointer (some ⟨w.heap.size, 0, none⟩)]] w' fun e w'' => e = .returned (.int .i64 (pickS lots false l)) ∧ Below w'.heap.size w' w'') := Lib.hid (fun w' hb hb' _ =>
          minfunc_c (HI.out.keep hb') (cell_keep hb HKW.out) (HLO.out.keep (bel2' hBW hb)) HNL.out (by rw [HM.out]; omega) hP.out.1 (HND.out.sublist hP.out.2.1) (fun x hx => HSUB.out x (hP.out.2.1.subset hx)))
        clear hBR
        cases least
        · go_wp2_with (go_at_call 77; ((with_reducible refine (MN.out _ hbel (Below.refl _ _) rfl).mono ?_); rintro e w5 ⟨rfl, hb5⟩; have hB5 := bel2' hbelw hb5))
          go_ret2
          exact ⟨ret_ib HX.out.1.symm HX.out.2.symm, hB5⟩
        · go_wp2_with (go_at_call 76; ((with_reducible refine (MX.out _ hbel (Below.refl _ _) rfl).mono ?_); rintro e w5 ⟨rfl, hb5⟩; have hB5 := bel2' hbelw hb5))
          go_ret2
          exact ⟨ret_ib HX.out.1.symm HX.out.2.symm, hB5⟩

    · have hkz : ¬ (k : Int) < (n : Int) := by omega
      have HE : Hid (leftS least R tied = l) := Lib.hid (lround_end (by rw [HRR.out.1, HN.out, HM.out]; omega) hP.out.2.2)
      have hBR := HBR.out l HE.out
      rw [HM.out] at hBR
      by_cases hm1 : m = 1
      · subst hm1
        have HX : Hid (ra = l.getD 0 0 ∧ rb = false) := Lib.hid (by rw [← head_getD HM.out]; exact hBR.1 rfl)
        obtain ⟨bb, off, hp0, _, _, hcell⟩ := HI.out.cellAt 0 (by rw [HM.out]; omega)
        subst hp0
        have hcell : wr.cell? ⟨bb, off, none⟩ = some (.int .i64 (l.getD 0 0)) := hcell
        obtain ⟨x, hx⟩ : ∃ x, l.getD 0 0 = x := ⟨_, rfl⟩
        rw [hx] at hcell HX
        clear hBR hx
        go_wp2_with fail
        go_ret2
        exact ⟨ret_ib HX.out.1.symm HX.out.2.symm, hbelw⟩
      · have hmz : ((m : Int) == 1) = false := by rw [beq_eq_false_iff_ne]; omega
        have HX : Hid (ra = pickS lots least l ∧ rb = true) := Lib.hid (hBR.2 hm1)
        have MX : Hid (∀ w', Below W.heap.size W w' → Below wr.heap.size wr w' → least = true → Calls Tryz.prog 76 #[.slice p1 m c1, .func (.func 74) #[] #[.pointer (some ⟨w.heap.size, 0, none⟩)]] w' fun e w'' => e = .returned (.int .i64 (pickS lots true l)) ∧ Below w'.heap.size w' w'') := Lib.hid (fun w' hb hb' _ =>
          maxfunc_c (HI.out.keep hb') (cell_keep hb HKW.out) (HLO.out.keep (bel2' hBW hb)) HNL.out (by rw [HM.out]; omega) hP.out.1 (HND.out.sublist hP.out.2.1) (fun x hx => HSUB.out x (hP.out.2.1.subset hx)))
        have MN : Hid (∀ w', Below W.heap.size W w' → Below wr.heap.size wr w' → least = false → Calls Tryz.prog 77 #[.slice p1 m c1, .func (.func 74) #[] #[.pointer (some ⟨w.heap.size, 0, none⟩)]] w' fun e w'' => e = .returned (.int .i64 (pickS lots false l)) ∧ Below w'.heap.size w' w'') := Lib.hid (fun w' hb hb' _ =>
          minfunc_c (HI.out.keep hb') (cell_keep hb HKW.out) (HLO.out.keep (bel2' hBW hb)) HNL.out (by rw [HM.out]; omega) hP.out.1 (HND.out.sublist hP.out.2.1) (fun x hx => HSUB.out x (hP.out.2.1.subset hx)))
        clear hBR
        cases least
        · go_wp2_with (go_at_call 77; ((with_reducible refine (MN.out _ hbel (Below.refl _ _) rfl).mono ?_); rintro e w5 ⟨rfl, hb5⟩; have hB5 := bel2' hbelw hb5))
          go_ret2
          exact ⟨ret_ib HX.out.1.symm HX.out.2.symm, hB5⟩
        · go_wp2_with (go_at_call 76; ((with_reducible refine (MX.out _ hbel (Below.refl _ _) rfl).mono ?_); rintro e w5 ⟨rfl, hb5⟩; have hB5 := bel2' hbelw hb5))
          go_ret2
          exact ⟨ret_ib HX.out.1.symm HX.out.2.symm, hB5⟩

set_option maxRecDepth 100000 in
set_option maxHeartbeats 8000000 in
theorem tbreak_3 {ve vt vl : Value} {L : List (List Q)} {tied lots : List Int} {w : World} (hL : RoundsAt w ve L) (ht : IntsAt w vt tied) (hl : IntsAt w vl lots) (least : Bool) (hv : validS 3 tied lots = true) :
    Calls Tryz.prog 53 #[.int .i64 3, ve, vt, vl, .bool least] w fun e w' => e = .returned (.tuple #[.int .i64 (breakS 3 L tied lots least).1, .bool (breakS 3 L tied lots least).2]) ∧ Below w.heap.size w w' := by
  obtain ⟨⟨_, _, _, hl7⟩, hbl, htne, hbt, htp⟩ := (valid_eq _ _ _).1 hv
  have htlen := nodup_len _ _ hbt.2 hbt.1
  have hLm : L.length ≤ 9223372036854775807 := SliceOf.len hL
  have HL := Lib.hid hL
  have HT := Lib.hid ht
  have HLO := Lib.hid hl
  have HSUB : Hid (∀ x ∈ tied, x ∈ lots) := Lib.hid (fun x hx => bal_mem hbl (hbt.1 x hx).1 (hbt.1 x hx).2)
  have HRG : Hid (∀ x ∈ tied, 0 ≤ x ∧ x < 1000) := Lib.hid (fun x hx => by have := hbt.1 x hx; omega)
  have HND := Lib.hid hbt.2
  have HTNE := Lib.hid htne
  have h7 : lots.length ≤ 1000 := by omega
  have h71 : tied.length ≤ 1000 := by omega
  have TV : Hid (∀ w', Below w.heap.size w w' → Calls Tryz.prog 71 #[.int .i64 3, vt, vl] w' fun e w'' => e = .returned (.bool true) ∧ Below w'.heap.size w' w'') := Lib.hid (fun w' hb => by
    have := tvalid_c (ht.keep hb) (hl.keep hb) 3
    rw [hv] at this
    exact this)
  have HBR := Lib.hid (fun l' h => break_of (L := L) (l := l') (least := least) hv h)
  obtain ⟨ra, hra⟩ : ∃ x, (breakS 3 L tied lots least).1 = x := ⟨_, rfl⟩
  obtain ⟨rb, hrb⟩ : ∃ x, (breakS 3 L tied lots least).2 = x := ⟨_, rfl⟩
  rw [hra, hrb] at HBR
  rw [hra, hrb]
  clear hra hrb hv hbl htne hbt htp hl7
  have CL : Hid (∀ w', Below w.heap.size w w' → Calls Tryz.prog 72 #[vt] w' fun e w'' => ∃ v', e = .returned v' ∧ IntsAt w'' v' tied ∧ Below w'.heap.size w' w'') := Lib.hid (fun w' hb => iclone_c (ht.keep hb) (by omega))
  obtain ⟨p2, c2, rfl⟩ := hL.shp
  obtain ⟨p3, c3, rfl⟩ := ht.shape
  obtain ⟨p4, c4, rfl⟩ := hl.shape
  obtain ⟨R, hR⟩ : ∃ R, roundsS 3 L = R := ⟨_, rfl⟩
  have HRR : Hid (R = [] ∧ True) := Lib.hid (by rw [← hR]; exact ⟨rfl, trivial⟩)
  rw [hR] at HBR
  obtain ⟨n, hn⟩ : ∃ n, L.length = n := ⟨_, rfl⟩
  obtain ⟨nt, hnt⟩ : ∃ n, tied.length = n := ⟨_, rfl⟩
  obtain ⟨nl, hnl⟩ : ∃ n, lots.length = n := ⟨_, rfl⟩
  have HN := Lib.hid hn
  have HNL : Hid (lots.length ≤ 1000) := Lib.hid h7
  have HNT : Hid (tied.length ≤ 1000) := Lib.hid h71
  rw [hn] at hLm HL
  rw [hn]
  rw [hnt] at CL HT TV
  rw [hnl] at HLO TV
  rw [hnt, hnl]
  obtain ⟨W, hW⟩ : ∃ W, w.alloc (.cells #[.slice p4 nl c4] 26) = W := ⟨_, rfl⟩
  have hBW : Below w.heap.size w W := by rw [← hW]; exact (Below.refl _ _).alloc (Nat.le_refl _) _
  have KW : W.cell? ⟨w.heap.size, 0, none⟩ = some (.slice p4 nl c4) := by rw [← hW]; exact (Blk.new w #[.slice p4 nl c4] 26).2.1 0
  have HKW := Lib.hid KW
  clear hL ht hl hR hn hnt hnl h7 h71 htlen
  go_enter Tryz.func53, Tryz.ntmps53
  go_wp2_with (first
    | (go_at_call 71; ((with_reducible refine (TV.out _ hBW).mono ?_); rintro e w1 ⟨rfl, hb1⟩; have hB1 := bel2' hBW hb1))
    | (go_at_call 72; ((with_reducible refine (CL.out _ hB1).mono ?_); rintro e w2 ⟨v2, rfl, hi2, hb2⟩; have hB2 := bel2' hb1 hb2)))
  go_loopw [12, 13] (fun lv iv wr => ∃ k : Nat, ∃ l : List Int, k ≤ n ∧ iv = .int .i64 k ∧ IntsAt wr lv l ∧ Below W.heap.size W wr ∧ Hid (l ≠ [] ∧ l.Sublist tied ∧ leftS least R tied = leftS least (R.drop k) l)) (fun _ iv _ => n - (intOf iv).toNat)
  case atStart => exact ⟨0, tied, by omega, rfl, hi2, hB2, Lib.hid ⟨HTNE.out, List.Sublist.refl _, rfl⟩⟩
  case round =>
    obtain ⟨k, l, hk, rfl, hI, hbel, hP⟩ := hrel
    have hbelw := bel2' hBW hbel
    obtain ⟨p1, c1, rfl⟩ := hI.shape
    obtain ⟨m, hm⟩ : ∃ n, l.length = n := ⟨_, rfl⟩
    have HM := Lib.hid hm
    have HI := Lib.hid hI
    rw [hm] at HI
    have hmle : m ≤ 1000 := by rw [← hm]; exact Nat.le_trans hP.out.2.1.length_le HNT.out
    have hm0 : 0 < m := by rw [← hm]; exact List.length_pos_iff.2 hP.out.1
    have hm0z : (0 : Int) < (m : Int) := by omega
    rw [hm]
    clear hI hm

    by_cases hk2 : k < n
    · have hkz : (k : Int) < (n : Int) := by omega
      have HE : Hid (leftS least R tied = l) := Lib.hid (lround_end (.inl (by rw [HRR.out.1]; simp)) hP.out.2.2)
      have hBR := HBR.out l HE.out
      rw [HM.out] at hBR
      by_cases hm1 : m = 1
      · subst hm1
        have HX : Hid (ra = l.getD 0 0 ∧ rb = false) := Lib.hid (by rw [← head_getD HM.out]; exact hBR.1 rfl)
        obtain ⟨bb, off, hp0, _, _, hcell⟩ := HI.out.cellAt 0 (by rw [HM.out]; omega)
        subst hp0
        have hcell : wr.cell? ⟨bb, off, none⟩ = some (.int .i64 (l.getD 0 0)) := hcell
        obtain ⟨x, hx⟩ : ∃ x, l.getD 0 0 = x := ⟨_, rfl⟩
        rw [hx] at hcell HX
        clear hBR hx
        go_wp2_with fail
        go_ret2
        exact ⟨ret_ib HX.out.1.symm HX.out.2.symm, hbelw⟩
      · have hmz : ((m : Int) == 1) = false := by rw [beq_eq_false_iff_ne]; omega
        have HX : Hid (ra = pickS lots least l ∧ rb = true) := Lib.hid (hBR.2 hm1)
        have MX : Hid (∀ w', Below W.heap.size W w' → Below wr.heap.size wr w' → least = true → Calls Tryz.prog 76 #[.slice p1 m c1, .func (.func 74) #[] #[.pointer (some ⟨w.heap.size, 0, none⟩)]] w' fun e w'' => e = .returned (.int .i64 (pickS lots true l)) ∧ Below w'.heap.size w' w'') := Lib.hid (fun w' hb hb' _ =>
          maxfunc_c (HI.out.keep hb') (cell_keep hb HKW.out) (HLO.out.keep (bel2' hBW hb)) HNL.out (by rw [HM.out]; omega) hP.out.1 (HND.out.sublist hP.out.2.1) (fun x hx => HSUB.out x (hP.out.2.1.subset hx)))
        have MN : Hid (∀ w', Below W.heap.size W w' → Below wr.heap.size wr w' → least = false → Calls Tryz.prog 77 #[.slice p1 m c1, .func (.func 74) #[] #[.pointer (some ⟨w.heap.size, 0, none⟩)]] w' fun e w'' => e = .returned (.int .i64 (pickS lots false l)) ∧ Below w'.heap.size w' w'') := Lib.hid (fun w' hb hb' _ =>
          minfunc_c (HI.out.keep hb') (cell_keep hb HKW.out) (HLO.out.keep (bel2' hBW hb)) HNL.out (by rw [HM.out]; omega) hP.out.1 (HND.out.sublist hP.out.2.1) (fun x hx => HSUB.out x (hP.out.2.1.subset hx)))
        clear hBR
        cases least
        · go_wp2_with (go_at_call 77; ((with_reducible refine (MN.out _ hbel (Below.refl _ _) rfl).mono ?_); rintro e w5 ⟨rfl, hb5⟩; have hB5 := bel2' hbelw hb5))
          go_ret2
          exact ⟨ret_ib HX.out.1.symm HX.out.2.symm, hB5⟩
        · go_wp2_with (go_at_call 76; ((with_reducible refine (MX.out _ hbel (Below.refl _ _) rfl).mono ?_); rintro e w5 ⟨rfl, hb5⟩; have hB5 := bel2' hbelw hb5))
          go_ret2
          exact ⟨ret_ib HX.out.1.symm HX.out.2.symm, hB5⟩

    · have hkz : ¬ (k : Int) < (n : Int) := by omega
      have HE : Hid (leftS least R tied = l) := Lib.hid (lround_end (.inl (by rw [HRR.out.1]; simp)) hP.out.2.2)
      have hBR := HBR.out l HE.out
      rw [HM.out] at hBR
      by_cases hm1 : m = 1
      · subst hm1
        have HX : Hid (ra = l.getD 0 0 ∧ rb = false) := Lib.hid (by rw [← head_getD HM.out]; exact hBR.1 rfl)
        obtain ⟨bb, off, hp0, _, _, hcell⟩ := HI.out.cellAt 0 (by rw [HM.out]; omega)
        subst hp0
        have hcell : wr.cell? ⟨bb, off, none⟩ = some (.int .i64 (l.getD 0 0)) := hcell
        obtain ⟨x, hx⟩ : ∃ x, l.getD 0 0 = x := ⟨_, rfl⟩
        rw [hx] at hcell HX
        clear hBR hx
        go_wp2_with fail
        go_ret2
        exact ⟨ret_ib HX.out.1.symm HX.out.2.symm, hbelw⟩
      · have hmz : ((m : Int) == 1) = false := by rw [beq_eq_false_iff_ne]; omega
        have HX : Hid (ra = pickS lots least l ∧ rb = true) := Lib.hid (hBR.2 hm1)
        have MX : Hid (∀ w', Below W.heap.size W w' → Below wr.heap.size wr w' → least = true → Calls Tryz.prog 76 #[.slice p1 m c1, .func (.func 74) #[] #[.pointer (some ⟨w.heap.size, 0, none⟩)]] w' fun e w'' => e = .returned (.int .i64 (pickS lots true l)) ∧ Below w'.heap.size w' w'') := Lib.hid (fun w' hb hb' _ =>
          maxfunc_c (HI.out.keep hb') (cell_keep hb HKW.out) (HLO.out.keep (bel2' hBW hb)) HNL.out (by rw [HM.out]; omega) hP.out.1 (HND.out.sublist hP.out.2.1) (fun x hx => HSUB.out x (hP.out.2.1.subset hx)))
        have MN : Hid (∀ w', Below W.heap.size W w' → Below wr.heap.size wr w' → least = false → Calls Tryz.prog 77 #[.slice p1 m c1, .func (.func 74) #[] #[.pointer (some ⟨w.heap.size, 0, none⟩)]] w' fun e w'' => e = .returned (.int .i64 (pickS lots false l)) ∧ Below w'.heap.size w' w'') := Lib.hid (fun w' hb hb' _ =>
          minfunc_c (HI.out.keep hb') (cell_keep hb HKW.out) (HLO.out.keep (bel2' hBW hb)) HNL.out (by rw [HM.out]; omega) hP.out.1 (HND.out.sublist hP.out.2.1) (fun x hx => HSUB.out x (hP.out.2.1.subset hx)))
        clear hBR
        cases least
        · go_wp2_with (go_at_call 77; ((with_reducible refine (MN.out _ hbel (Below.refl _ _) rfl).mono ?_); rintro e w5 ⟨rfl, hb5⟩; have hB5 := bel2' hbelw hb5))
          go_ret2
          exact ⟨ret_ib HX.out.1.symm HX.out.2.symm, hB5⟩
        · go_wp2_with (go_at_call 76; ((with_reducible refine (MX.out _ hbel (Below.refl _ _) rfl).mono ?_); rintro e w5 ⟨rfl, hb5⟩; have hB5 := bel2' hbelw hb5))
          go_ret2
          exact ⟨ret_ib HX.out.1.symm HX.out.2.symm, hB5⟩

set_option maxHeartbeats 2000000 in
theorem tbreak_c {ve vt vl : Value} {L : List (List Q)} {tied lots : List Int} {w : World} (hL : RoundsAt w ve L) (ht : IntsAt w vt tied) (hl : IntsAt w vl lots) (rule : Int) (least : Bool) :
    Calls Tryz.prog 53 #[.int .i64 rule, ve, vt, vl, .bool least] w fun e w' => e = .returned (.tuple #[.int .i64 (breakS rule L tied lots least).1, .bool (breakS rule L tied lots least).2]) ∧ Below w.heap.size w w' := by
  cases hv : validS rule tied lots
  · have TV : Hid (∀ w', Below w.heap.size w w' → Calls Tryz.prog 71 #[.int .i64 rule, vt, vl] w' fun e w'' => e = .returned (.bool false) ∧ Below w'.heap.size w' w'') := Lib.hid (fun w' hb => by
      have := tvalid_c (ht.keep hb) (hl.keep hb) rule
      rw [hv] at this
      exact this)
    rw [break_no hv]
    obtain ⟨p2, c2, rfl⟩ := hL.shp
    obtain ⟨p3, c3, rfl⟩ := ht.shape
    obtain ⟨p4, c4, rfl⟩ := hl.shape
    obtain ⟨n, hn⟩ : ∃ n, L.length = n := ⟨_, rfl⟩
    obtain ⟨nt, hnt⟩ : ∃ n, tied.length = n := ⟨_, rfl⟩
    obtain ⟨nl, hnl⟩ : ∃ n, lots.length = n := ⟨_, rfl⟩
    rw [hnt, hnl] at TV
    rw [hn, hnt, hnl]
    obtain ⟨W, hW⟩ : ∃ W, w.alloc (.cells #[.slice p4 nl c4] 26) = W := ⟨_, rfl⟩
    have hBW : Below w.heap.size w W := by rw [← hW]; exact (Below.refl _ _).alloc (Nat.le_refl _) _
    have KW : W.cell? ⟨w.heap.size, 0, none⟩ = some (.slice p4 nl c4) := by rw [← hW]; exact (Blk.new w #[.slice p4 nl c4] 26).2.1 0
    clear hL ht hl hn hnt hnl hv
    go_enter Tryz.func53, Tryz.ntmps53
    go_wp2_with (go_at_call 71; ((with_reducible refine (TV.out _ hBW).mono ?_); rintro e w1 ⟨rfl, hb1⟩; have hB1 := bel2' hBW hb1))
    go_ret2
    exact ⟨rfl, hB1⟩
  · have h := (valid_eq _ _ _).1 hv
    rcases (by omega : rule = 1 ∨ rule = 2 ∨ rule = 3) with rfl | rfl | rfl
    · exact tbreak_1 hL ht hl least hv
    · exact tbreak_2 hL ht hl least hv
    · exact tbreak_3 hL ht hl least hv

end Go.Proofs.YtbnhgmikegdppaaGreat

/- Rows of Ratios that are made: Wholes. A list of tied candidates. -/
namespace Go.Proofs.Nums

theorem mk'_lt {neg : Bool} {a b M : Nat} (ha : a < M) (hb : b < M) (h2 : 2 ≤ M) : (Q.mk' neg a b).n < M ∧ (Q.mk' neg a b).d < M := by
  unfold Q.mk'
  split
  · exact ⟨by show 0 < M; omega, by show 1 < M; omega⟩
  · exact ⟨Nat.lt_of_le_of_lt (Nat.div_le_self _ _) ha, Nat.lt_of_le_of_lt (Nat.div_le_self _ _) hb⟩
theorem mk'_pos {a b : Nat} : (Q.mk' false a b).neg = false := by
  unfold Q.mk'
  split <;> rfl
theorem ShQ.frac {a b : Nat} (ha : a < 4294967296) (hb : b < 4294967296) : ShQ (Q.mk' false a b) :=
  ⟨Q.mk'_nf _ _ _, mk'_pos, (mk'_lt ha hb (by decide)).1, (mk'_lt ha hb (by decide)).2⟩
/-- Integers as Ratios. -/
def wholeQ (x : Int) : Q := Q.mk' false x.toNat 1
def wholesS (l : List Int) : List Q := l.map wholeQ
theorem wholes_snoc {l : List Int} {k : Nat} {y : Int} (h : k < l.length) (hy : l.getD k 0 = y) : wholesS (l.take (k + 1)) = wholesS (l.take k) ++ [wholeQ y] := by
  unfold wholesS
  rw [take_snoc_i h, hy, List.map_append]
  rfl
theorem wholes_len (l : List Int) : (wholesS l).length = l.length := List.length_map _
/-- A list of tied candidates among n. -/
def tiedS (n : Int) (l : List Int) : List Int := risingS (ballotS n ((n - 1) :: l.take 7))

end Go.Proofs.Nums
namespace Go.Proofs.YtbnhgmikegdppaaGreat
open Go.RowKit Go.Proofs.Kit Go.Proofs.Nums

theorem nrm_made {w : World} {v : Value} {n L B : Nat} (h : Nrm w v n L) (hf : Fresh B v) : Made B (fun w => Nrm w v n L) w :=
  (RowAt.made h.1.1 hf).imp fun _ g => ⟨⟨g, h.1.2⟩, h.2⟩
theorem ratR_made {w : World} {B : Nat} {p l k p' l' k'} {q : Q} (h : RatN w (.agg #[.bool false, .slice p l k, .slice p' l' k']) q 2) (hs : ShQ q) (f1 : Fresh B (.slice p l k)) (f2 : Fresh B (.slice p' l' k')) : Made B (fun w => ratR w [.bool false, .slice p l k, .slice p' l' k'] q) w := by
  obtain ⟨vn, vd, e, h1, h2⟩ := h
  have e' := e
  simp only [Value.agg.injEq, Array.mk.injEq, List.cons.injEq, and_true] at e'
  obtain ⟨e0, rfl, rfl⟩ := e'
  exact ((nrm_made h1 f1).both (nrm_made h2 f2)).imp fun w' g => ⟨_, _, _, _, _, _, rfl, ⟨_, _, by rw [← e0], g.1, g.2⟩, hs⟩
theorem erQ : ElemRow Tryz.prog 47 51 (.agg #[.bool false, .slice none 0 0, .slice none 0 0]) 3 56 := ⟨Tryz.underlying47, by kernel_rfl, rfl, by decide⟩
theorem erRR : ElemRow Tryz.prog 68 47 (.slice none 0 0) 1 24 := ⟨Tryz.underlying68, by kernel_rfl, rfl, by decide⟩
/-- A row of Ratios under construction. -/
abbrev RLst (B : Nat) (v : Value) (w : World) (l : List Q) (css : List (List Value)) : Prop := Lst ratR B B 51 3 v w l css

theorem Lst.fresh_elt {α : Type} {R : World → List Value → α → Prop} {B base k : Nat} {e : TypeId} {w w1 : World} {v : Value} {l : List α} {css : List (List Value)} {S : World → Prop} (hL : Lst R B base e k v w l css) (hm : Made w.heap.size S w1) (hB : B ≤ w.heap.size) : On (fun b => B ≤ b ∧ b < w1.heap.size ∧ v.ownBlock ≠ some b) S w1 :=
  On.mono (hm.off (o := v.ownBlock) fun g hg => (hL.lt g hg).2) fun _ hb => ⟨Nat.le_trans hB hb.1, hb.2⟩

theorem whole_s (n : Nat) (hn : n ≤ 1000000) (w : World) :
    Calls Tryz.prog 36 #[.int .i64 n] w fun e w' => ∃ p l k p' l' k', e = .returned (.agg #[.bool false, .slice p l k, .slice p' l' k']) ∧ Made w.heap.size (fun w => ratR w [.bool false, .slice p l k, .slice p' l' k'] (wholeQ n)) w' ∧ Below w.heap.size w w' := by
  refine (whole_f n hn w).mono ?_
  rintro e w' ⟨p, l, k, p', l', k', rfl, h1, f1, f2, hb⟩
  rw [mk'_pos] at h1
  exact ⟨p, l, k, p', l', k', by rw [mk'_pos], ratR_made h1 (ShQ.frac (by omega) (by omega)) f1 f2, hb⟩

set_option maxRecDepth 100000 in
set_option maxHeartbeats 4000000 in
theorem wholes_c {v : Value} {l : List Int} {w : World} (hv : IntsAt w v l) (hr : ∀ x ∈ l, 0 ≤ x ∧ x ≤ 1000000) (hl : l.length ≤ 1000) :
    Calls Tryz.prog 35 #[v] w fun e w' => ∃ v', e = .returned v' ∧ (∃ css, RLst w.heap.size v' w' (wholesS l) css) ∧ Below w.heap.size w w' := by
  have HV := Lib.hid hv
  have HR := Lib.hid hr
  obtain ⟨p, c, rfl⟩ := hv.shape
  obtain ⟨len, hlen⟩ : ∃ n, l.length = n := ⟨_, rfl⟩
  have HN := Lib.hid hlen
  rw [hlen] at HV hl ⊢
  clear hv hr hlen
  go_enter Tryz.func35, Tryz.ntmps35
  go_wp2_with fail
  go_loopw [3, 4] (fun ov iv wr => ∃ k : Nat, ∃ qs : List Q, ∃ css, k ≤ len ∧ qs.length = k ∧ iv = .int .i64 k ∧ Below w.heap.size w wr ∧ Hid (RLst w.heap.size ov wr qs css) ∧ Hid (qs = wholesS (l.take k))) (fun _ iv _ => len - (intOf iv).toNat)
  case atStart => exact ⟨0, [], [], by omega, rfl, rfl, Below.refl _ _, Lib.hid (Lst.nil _), Lib.hid rfl⟩
  case round =>
    obtain ⟨k, qs, css, hk, hqs, rfl, hbel, hL, hQ⟩ := hrel
    by_cases hlt : k < len
    · have hltz : (k : Int) < (len : Int) := by omega
      obtain ⟨bb, off, hp0, hc1, hc2, hcell⟩ := (HV.out.keep hbel).cellAt k (by rw [HN.out]; exact hlt)
      subst hp0
      have hmem := HR.out (l.getD k 0) (mem_getD (by rw [HN.out]; exact hlt) rfl)
      obtain ⟨y, hy⟩ : ∃ y, l.getD k 0 = y := ⟨_, rfl⟩
      rw [hy] at hcell hmem
      obtain ⟨cn, hcn⟩ : ∃ j : Nat, y = j := ⟨y.toNat, by omega⟩
      subst hcn
      have HS := Lib.hid (wholes_snoc (by rw [HN.out]; exact hlt) hy)
      have HW : Hid (∀ w, Calls Tryz.prog 36 #[.int .i64 cn] w fun e w' => ∃ p l k p' l' k', e = .returned (.agg #[.bool false, .slice p l k, .slice p' l' k']) ∧ Made w.heap.size (fun w => ratR w [.bool false, .slice p l k, .slice p' l' k'] (wholeQ cn)) w' ∧ Below w.heap.size w w') := Lib.hid (fun w => whole_s cn (by omega) w)
      clear hy hmem
      go_wp2_with (first | (go_at_call 36; ((with_reducible refine (HW.out _).mono ?_); rintro e w1 ⟨p1, l1, k1, p2, l2, k2, rfl, hm1, hb1⟩; have hB1 := bel2' hbel hb1; have HM := Lib.hid (Lst.fresh_elt hL.out hm1 hbel.size); clear hm1)) | (at_builtin; go_must (refine append_lst erQ rfl rfl (hL.out.keep hb1) rfl rfl rfl (by simp [Value.oneCell']) (by omega) (by omega) hB1.size HM.out ?_); intro v' w4 hL4 hb4 hg4 hv4; have HL4 := Lib.hid hL4; clear hL4))
      go_roundw
      case rel => exact ⟨k + 1, _, _, by omega, by simp [hqs], by go_num, hB1.trans hb4, HL4, Lib.hid (by rw [hQ.out, HS.out])⟩
      case measure => simp [intOf] <;> omega
    · have hltz : ¬ (k : Int) < (len : Int) := by omega
      have HX : Hid (qs = wholesS l) := Lib.hid (by rw [hQ.out, List.take_of_length_le (by rw [HN.out]; omega)])
      go_wp2_with fail
      go_ret
      exact ⟨_, rfl, ⟨_, by rw [← HX.out]; exact hL.out⟩, hbel⟩

end Go.Proofs.YtbnhgmikegdppaaGreat

namespace Go.Proofs.YtbnhgmikegdppaaGreat
open Go.RowKit Go.Proofs.Kit Go.Proofs.Nums

theorem rmul_b (va vb : Value) (n m : Nat) (w : World) (ha : BitAt w va (bitsN n)) (hb : BitAt w vb (bitsN m)) (h1 : (bitsN n).length ≤ 20000) (h2 : (bitsN m).length ≤ 20000) :
    Calls Tryz.prog 113 #[va, vb] w fun e w' => ∃ v', e = .returned v' ∧ BitAt w' v' (bitsN (n * m)) ∧ Below w.heap.size w w' := by
  have := rmul_any va vb _ _ w ha hb h1 h2
  rw [bval_bits, bval_bits] at this; exact this

theorem radd_b (va vb : Value) (n m : Nat) (w : World) (ha : BitAt w va (bitsN n)) (hb : BitAt w vb (bitsN m)) (h1 : Hid ((bitsN n).length ≤ 20000)) (h2 : Hid ((bitsN m).length ≤ 20000)) :
    Calls Tryz.prog 114 #[va, vb] w fun e w' => ∃ v', e = .returned v' ∧ BitAt w' v' (bitsN (n + m)) ∧ Below w.heap.size w w' :=
  radd_n va vb n m w ha hb (Nat.le_trans h1.out (by omega)) (Nat.le_trans h2.out (by omega))

theorem rsub_b (va vb : Value) (n m : Nat) (w : World) (ha : BitAt w va (bitsN n)) (hb : BitAt w vb (bitsN m)) (h1 : Hid ((bitsN n).length ≤ 20000)) (h2 : Hid (m ≤ n)) :
    Calls Tryz.prog 116 #[va, vb] w fun e w' => ∃ v', e = .returned v' ∧ BitAt w' v' (bitsN (n - m)) ∧ Below w.heap.size w w' :=
  rsub_n va vb n m w ha hb (Nat.le_trans h1.out (by omega)) h2.out

theorem rcmp_b {c : Int} (va vb : Value) (n m : Nat) (w : World) (ha : BitAt w va (bitsN n)) (hb : BitAt w vb (bitsN m)) (h1 : Hid ((bitsN n).length ≤ 20000)) (h2 : Hid ((bitsN m).length ≤ 20000)) (hc : Hid (cmpN n m = c)) :
    Calls Tryz.prog 115 #[va, vb] w fun e w' => e = .returned (.int .i64 c) ∧ Below w.heap.size w w' := by
  have := rcmp_n va vb n m w ha hb (Nat.le_trans h1.out (by omega)) (Nat.le_trans h2.out (by omega))
  rw [hc.out] at this; exact this

end Go.Proofs.YtbnhgmikegdppaaGreat

namespace Go.Proofs.YtbnhgmikegdppaaGreat
open Go.RowKit Go.Proofs.Kit Go.Proofs.Nums

theorem six_set3 {w : World} {H : Nat} {a0 a1 a2 b0 b1 b2 x y z : Value}
    (h : w.cell? ⟨H, 0, none⟩ = some a0 ∧ w.cell? ⟨H, 1, none⟩ = some a1 ∧ w.cell? ⟨H, 2, none⟩ = some a2 ∧ w.cell? ⟨H + 1, 0, none⟩ = some b0 ∧ w.cell? ⟨H + 1, 1, none⟩ = some b1 ∧ w.cell? ⟨H + 1, 2, none⟩ = some b2) :
    (((w.setCell ⟨H + 1 + 1, 0, none⟩ x).setCell ⟨H + 1 + 1, 1, none⟩ y).setCell ⟨H + 1 + 1, 2, none⟩ z).cell? ⟨H, 0, none⟩ = some a0 ∧ (((w.setCell ⟨H + 1 + 1, 0, none⟩ x).setCell ⟨H + 1 + 1, 1, none⟩ y).setCell ⟨H + 1 + 1, 2, none⟩ z).cell? ⟨H, 1, none⟩ = some a1 ∧ (((w.setCell ⟨H + 1 + 1, 0, none⟩ x).setCell ⟨H + 1 + 1, 1, none⟩ y).setCell ⟨H + 1 + 1, 2, none⟩ z).cell? ⟨H, 2, none⟩ = some a2 ∧ (((w.setCell ⟨H + 1 + 1, 0, none⟩ x).setCell ⟨H + 1 + 1, 1, none⟩ y).setCell ⟨H + 1 + 1, 2, none⟩ z).cell? ⟨H + 1, 0, none⟩ = some b0 ∧ (((w.setCell ⟨H + 1 + 1, 0, none⟩ x).setCell ⟨H + 1 + 1, 1, none⟩ y).setCell ⟨H + 1 + 1, 2, none⟩ z).cell? ⟨H + 1, 1, none⟩ = some b1 ∧ (((w.setCell ⟨H + 1 + 1, 0, none⟩ x).setCell ⟨H + 1 + 1, 1, none⟩ y).setCell ⟨H + 1 + 1, 2, none⟩ z).cell? ⟨H + 1, 2, none⟩ = some b2 := by
  have e : ∀ b o, b ≠ H + 1 + 1 → (((w.setCell ⟨H + 1 + 1, 0, none⟩ x).setCell ⟨H + 1 + 1, 1, none⟩ y).setCell ⟨H + 1 + 1, 2, none⟩ z).cell? ⟨b, o, none⟩ = w.cell? ⟨b, o, none⟩ := fun b o hb => set3_out (w := w) (b := H + 1 + 1) (b' := b) (o := o) (x := x) (y := y) (z := z) hb
  rw [e H 0 (by omega), e H 1 (by omega), e H 2 (by omega), e (H + 1) 0 (by omega), e (H + 1) 1 (by omega), e (H + 1) 2 (by omega)]
  exact h

end Go.Proofs.YtbnhgmikegdppaaGreat

namespace Go.Proofs.YtbnhgmikegdppaaGreat
open Go.RowKit Go.Proofs.Kit Go.Proofs.Nums
end Go.Proofs.YtbnhgmikegdppaaGreat

/- The rounds that the laws make. -/
namespace Go.Proofs.Nums
theorem len_small {n : Nat} (h : n < 1024) : (bitsN n).length ≤ 10 := bits_len_le n 10 h
end Go.Proofs.Nums
namespace Go.Proofs.YtbnhgmikegdppaaGreat
open Go.RowKit Go.Proofs.Kit Go.Proofs.Nums

/-- Orders that come to one end are one goal. -/
theorem one_goal {P G : Prop} (r : Hid P → G) (t : P) : G := r (Lib.hid t)
theorem own_shp {w : World} {base : Nat} {e : TypeId} {size : Nat} {v : Value} {n : Nat} {cs : List Value} (h : w.ownsRow base e size v n cs) : ∃ p c, v = .slice p n c ∧ n ≤ c ∧ c ≤ 9223372036854775807 := by
  rcases h.2 with ⟨rfl, hn⟩ | ⟨g, cap, cur, rfl, _, _, hc, hm, _⟩
  · exact ⟨none, 0, by rw [hn], by omega, by omega⟩
  · exact ⟨_, cap, rfl, hc, by unfold maxLen at hm; omega⟩
theorem Below.three3 {w w' : World} {b : Nat} {x y z : Value} (hb : Below w.heap.size w w') (h : w.cell? ⟨b, 0, none⟩ = some x ∧ w.cell? ⟨b, 1, none⟩ = some y ∧ w.cell? ⟨b, 2, none⟩ = some z) : w'.cell? ⟨b, 0, none⟩ = some x ∧ w'.cell? ⟨b, 1, none⟩ = some y ∧ w'.cell? ⟨b, 2, none⟩ = some z := ⟨cell_keep hb h.1, cell_keep hb h.2.1, cell_keep hb h.2.2⟩
/-- The one cell of a list of lists: its row. -/
def rowI (w : World) (c : List Value) (l : List Int) : Prop := ∃ u, c = [u] ∧ IntsAt w u l
def GridAt (w : World) (v : Value) (L : List (List Int)) : Prop := SliceOf rowI 1 w v L
theorem GridAt.keep {w w' : World} {v : Value} {L : List (List Int)} (h : GridAt w v L) (hb : Below w.heap.size w w') : GridAt w' v L := SliceOf.keep h hb fun _ _ ⟨u, h1, h2⟩ => ⟨u, h1, h2.keep hb⟩
theorem GridAt.shp {w : World} {v : Value} {L : List (List Int)} (h : GridAt w v L) : ∃ p c, v = .slice p L.length c := by
  obtain ⟨p, c, h1, _⟩ := SliceOf.shape h
  exact ⟨p, c, h1⟩
theorem GridAt.cellAt {w : World} {p : Option Addr} {n c : Nat} {L : List (List Int)} (h : GridAt w (.slice p n c) L) {k : Nat} (hk : k < L.length) {v : List Int} (hv : L.getD k [] = v) :
    ∃ b off u, p = some ⟨b, off, none⟩ ∧ L.length ≤ c ∧ c ≤ 9223372036854775807 ∧ w.cell? ⟨b, off + k, none⟩ = some u ∧ IntsAt w u v := by
  obtain ⟨b, off, cap, cs, hv2, h1, h2, h3, h4, h5⟩ := SliceOf.at_ (by decide) h hk
  simp only [Value.slice.injEq] at hv2
  obtain ⟨rfl, _, rfl⟩ := hv2
  have e : L[k] = v := by rw [← hv, List.getD_eq_getElem?_getD, List.getElem?_eq_getElem hk]; rfl
  rw [e] at h4
  obtain ⟨u, rfl, g⟩ := h4
  have := h5 0 u rfl
  rw [Nat.mul_one, Nat.add_zero] at this
  exact ⟨b, off, u, rfl, h1, h2, this, g⟩
/-- A row of rows of Ratios under construction. -/
abbrev LLst (B : Nat) (v : Value) (w : World) (L : List (List Q)) (css : List (List Value)) : Prop := Lst rowR B B 47 1 v w L css

/-- What is returned: a number that the reference holds, with small parts. -/
def SmallQ (q : Q) : Prop := q.neg = false ∧ q.n < 100 ∧ q.d < 100
theorem divR_small {a b : Nat} (h1 : a < 10) (h2 : b < 10) : ShQ (Q.divR (Q.mk' false a 1) (Q.mk' false b 1)) := by
  have s1 := mk'_lt (neg := false) (a := a) (b := 1) (M := 10) h1 (by omega) (by omega)
  have s2 := mk'_lt (neg := false) (a := b) (b := 1) (M := 10) h2 (by omega) (by omega)
  unfold Q.divR
  rw [mk'_pos, mk'_pos]
  refine ShQ.frac ?_ ?_
  · exact Nat.lt_of_lt_of_le (Nat.mul_lt_mul'' s1.1 s2.2) (by omega)
  · exact Nat.lt_of_lt_of_le (Nat.mul_lt_mul'' s1.2 s2.1) (by omega)
end Go.Proofs.YtbnhgmikegdppaaGreat

/- electionmake.Perm. -/
namespace Go.Proofs.Nums

/-- Perm after i rounds: the list, and what is left of the code. -/
def permSt (code : Int) : Nat → List Int × Int
  | 0 => ([], code)
  | i + 1 => ((permSt code i).1.take ((permSt code i).2 % ((i : Int) + 1)).toNat ++ [(i : Int)] ++ (permSt code i).1.drop ((permSt code i).2 % ((i : Int) + 1)).toNat, (permSt code i).2.tdiv ((i : Int) + 1))
def permS (n : Nat) (code : Int) : List Int := (permSt code n).1
theorem permS_perm (n : Nat) (code : Int) : (permS n code).Perm ((List.range n).map fun i : Nat => (i : Int)) := by
  unfold permS
  induction n with
  | zero => exact List.Perm.refl _
  | succ n ih =>
    rw [List.range_succ, List.map_append, List.map_singleton]
    show ((permSt code n).1.take _ ++ [(n : Int)] ++ (permSt code n).1.drop _).Perm _
    generalize ((permSt code n).2 % ((n : Int) + 1)).toNat = k
    have h1 : ((permSt code n).1.take k ++ [(n : Int)] ++ (permSt code n).1.drop k).Perm ([(n : Int)] ++ ((permSt code n).1.take k ++ (permSt code n).1.drop k)) := by
      rw [← List.append_assoc]
      exact (List.perm_append_comm).append_right _
    rw [List.take_append_drop] at h1
    exact h1.trans ((List.perm_append_comm).trans (ih.append_right _))

end Go.Proofs.Nums
namespace Go.Proofs.YtbnhgmikegdppaaGreat
open Go.RowKit Go.Proofs.Kit Go.Proofs.Nums

/-- What Perm hands back: a list of n numbers below n. -/
def PermAt (B : Nat) (n code c : Int) (m : Nat) (v : Value) (w : World) : Prop := ∃ l : List Int, IntsAt w v l ∧ l.length = m ∧ (∀ x ∈ l, 0 ≤ x ∧ x < n) ∧ Fresh B v ∧ (m = 0 → v = .slice none 0 0) ∧ permSt code m = (l, c)

theorem mem_ins {l : List Int} {k : Nat} {i n : Int} (h : ∀ x ∈ l, 0 ≤ x ∧ x < n) (h0 : 0 ≤ i) (h1 : i < n) : ∀ x ∈ l.take k ++ [i] ++ l.drop k, 0 ≤ x ∧ x < n := by
  intro x hx
  rcases List.mem_append.1 hx with g | g
  · rcases List.mem_append.1 g with g | g
    · exact h x (List.mem_of_mem_take g)
    · rw [List.mem_singleton.1 g]; exact ⟨h0, h1⟩
  · exact h x (List.mem_of_mem_drop g)

theorem one_row (w : World) (i : Int) (T : TypeId) : RowAt (w.alloc (.cells #[.int .i64 i] T)) (.slice (some ⟨w.heap.size, 0, none⟩) 1 1) ([i].map (Value.int .i64)) :=
  RowAt.mk (b := w.heap.size) (off := 0) (cap := 1) (Nat.le_refl _) (by omega) (fun j u hj => by
    rw [Nat.zero_add]
    have := cell_alloc_new w #[.int .i64 i] T (0, 0) j
    rw [this]
    simpa using hj)

set_option maxRecDepth 100000 in
set_option maxHeartbeats 8000000 in
theorem perm_c (n : Nat) (hn : n ≤ 12) (code : Int) (hc1 : -9223372036854775808 ≤ code) (hc2 : code ≤ 9223372036854775807) (w : World) :
    Calls Tryz.prog 11 #[.int .i64 n, .int .i64 code] w fun e w' => ∃ v, e = .returned v ∧ (∃ c, PermAt w.heap.size n code c n v w') ∧ Below w.heap.size w w' := by
  go_enter Tryz.func11, Tryz.ntmps11
  go_wp2_with fail
  go_loopw [1, 5, 6, 7] (fun cv ov iv _ wr => ∃ c : Int, ∃ i : Nat, i ≤ n ∧ -9223372036854775808 ≤ c ∧ c ≤ 9223372036854775807 ∧ cv = .int .i64 c ∧ iv = .int .i64 i ∧ Hid (PermAt w.heap.size n code c i ov wr) ∧ Below w.heap.size w wr) (fun _ _ iv _ _ => n - (intOf iv).toNat)
  case atStart => exact ⟨code, 0, by omega, hc1, hc2, rfl, rfl, Lib.hid ⟨[], RowAt.nil _, rfl, fun x hx => by simp at hx, Fresh.nil _, fun _ => rfl, rfl⟩, Below.refl _ _⟩
  case round =>
    obtain ⟨c, i, hi, g1, g2, rfl, rfl, hP, hbel⟩ := hrel
    by_cases hlt : i < n
    · obtain ⟨m1, hm1⟩ : ∃ x, (i : Int) + 1 = x := ⟨_, rfl⟩
      have e1 : 1 ≤ m1 := by omega
      have e2 : m1 ≤ 13 := by omega
      have hk1 := Int.emod_nonneg c (show m1 ≠ 0 by omega)
      have hk2 := Int.emod_lt_of_pos c (show 0 < m1 by omega)
      obtain ⟨kz, hkz⟩ : ∃ x, c % m1 = x := ⟨_, rfl⟩
      rw [hkz] at hk1 hk2
      have C : Hid (∀ w, Calls Tryz.prog 8 #[.int .i64 c, .int .i64 m1] w fun e w' => e = .returned (.int .i64 kz) ∧ w = w') := Lib.hid (fun w => by rw [← hkz]; exact mod_c c m1 (by omega) (by omega) w)
      have hq : (c.tdiv m1).natAbs ≤ c.natAbs := by rw [Int.natAbs_tdiv]; exact Nat.div_le_self _ _
      obtain ⟨qq, hqq⟩ : ∃ x, c.tdiv m1 = x := ⟨_, rfl⟩
      have hq3 : -9223372036854775808 ≤ qq ∧ qq ≤ 9223372036854775807 := by
        rw [← hqq]
        by_cases h0 : 0 ≤ c
        · have := Int.tdiv_nonneg h0 (show 0 ≤ m1 by omega)
          omega
        · have h3 := Int.tdiv_nonneg (show 0 ≤ -c by omega) (show 0 ≤ m1 by omega)
          rw [Int.neg_tdiv] at h3
          omega
      obtain ⟨q1, q2⟩ := hq3
      have uq : IntKind.i64.wrap qq = qq := w64 q1 q2
      have z1 : ¬ m1 = 0 := by omega
      have z2 : (m1 == 0) = false := by rw [beq_eq_false_iff_ne]; omega
      obtain ⟨k, hk⟩ : ∃ k : Nat, kz = k := ⟨kz.toNat, by omega⟩
      subst hk
      have hki : k ≤ i := by omega
      have HS : Hid (∀ l : List Int, permSt code i = (l, c) → permSt code (i + 1) = (l.take k ++ [(i : Int)] ++ l.drop k, qq)) := Lib.hid (fun l hl => by
        simp only [permSt, hl]
        rw [hm1, hkz, hqq, Int.toNat_natCast])
      have HQ : Hid (m1 = 1 → qq = c) := Lib.hid (fun e => by rw [← hqq, e, Int.tdiv_one])
      clear hkz hq hk1 hk2
      obtain ⟨l, hl, hlen, hmem, hfr, hnil, hst⟩ := hP.out
      have HL := Lib.hid hst
      have hins : Hid (∀ x ∈ l.take k ++ [(i : Int)] ++ l.drop k, 0 ≤ x ∧ x < (n : Int)) := Lib.hid (mem_ins hmem (by omega) (by omega))
      have hlen2 : Hid ((l.take k ++ [(i : Int)] ++ l.drop k).length = i + 1) := Lib.hid (by simp only [List.length_append, List.length_take, List.length_drop, List.length_singleton]; omega)
      by_cases hi0 : i = 0
      · subst hi0
        obtain rfl : k = 0 := by omega
        have hv := hnil rfl
        have hl0 : l = [] := List.eq_nil_of_length_eq_zero hlen
        subst hl0
        subst hv
        obtain rfl : m1 = 1 := by omega
        have uc : IntKind.i64.wrap c = c := w64 g1 g2
        obtain ⟨T, hT⟩ : ∃ T : List Value, (([] : List Int).take 0).map (Value.int .i64) = T := ⟨_, rfl⟩
        obtain ⟨D, hD⟩ : ∃ D : List Value, (([] : List Int).drop 0).map (Value.int .i64) = D := ⟨_, rfl⟩
        have lT : T.length = 0 := by rw [← hT]; rfl
        have lD : D.length = 0 := by rw [← hD]; rfl
        have HT : Hid (RowAt wr (.slice none 0 0) T) := Lib.hid (by rw [← hT]; exact RowAt.nil _)
        have HD : Hid (RowAt wr (.slice none 0 0) D) := Lib.hid (by rw [← hD]; exact RowAt.nil _)
        have HO : Hid (∀ u ∈ T, u.oneCell' = true) := Lib.hid (by rw [← hT]; exact ints_one _)
        have HO2 : Hid (∀ u ∈ D, u.oneCell' = true) := Lib.hid (by rw [← hD]; exact ints_one _)
        have HO1 : Hid (∀ u ∈ [Value.int .i64 (0 : Int)], u.oneCell' = true) := Lib.hid (fun u hu => by rw [List.mem_singleton.1 hu]; rfl)
        have HTD := Lib.hid (And.intro hT hD)
        clear hP hl hlen hmem hfr hnil hst hqq uq hT hD hm1
        go_wp2_with (first
          | (go_at_call 8; ((with_reducible refine (C.out _).mono ?_); rintro e w1 ⟨rfl, rfl⟩)))
        go_region_law (first
          | (refine step_append_read erI (by rfl) (by rfl) (World.ownsRow_nil _ _ _ _) (by rfl) (xv := .slice none 0 0) ?_ (by rfl) HO.out ?_ ?_ (Nat.le_refl _) ?_; (first | exact HT.out.keep (Below.refl _ _).drew | exact (HT.out.keep (Below.refl _ _).drew).alloc _); omega; omega; intro v1 w1 hown1 hb1; have hB1 : Below wr.heap.size wr w1 := (by first | exact bel2' (Below.refl _ _).drew hb1 | exact bel2' (bal (Below.refl _ _).drew _) hb1))
          | (refine step_append_read erI (by rfl) (by rfl) (by first | exact hown1 | exact ownsRow_below hown1 ((Below.refl _ _).alloc (Nat.le_refl _) _)) (by rfl) (cs := [Value.int .i64 (0 : Int)]) ?_ (by rfl) HO1.out ?_ ?_ ?_ ?_; (first | exact one_row w1 _ _ | exact ((one_row wr _ _).keep (Below.refl _ _).drew).keep hb1); (simp only [List.length_singleton]; omega); (simp only [List.length_singleton]; omega); (first | exact hb1.size | exact Nat.le_trans hb1.size (by simp)); intro v2 w2 hown2 hb2; have hB2 : Below wr.heap.size wr w2 := (by first | exact hB1.trans (hb2.mono (by simp)) | exact (bal hB1 _).trans (hb2.mono (by simp))))
          | (refine step_append_read erI (by rfl) (by rfl) hown2 (by rfl) (xv := .slice none 0 0) ?_ (by rfl) HO2.out ?_ ?_ ?_ ?_; exact HD.out.keep hB2; (simp only [List.length_singleton]; omega); (simp only [List.length_singleton]; omega); (first | exact hb2.size | exact Nat.le_trans (by first | exact hb1.size | exact Nat.le_trans hb1.size (by simp)) hb2.size); intro v3 w3 hown3 hb3; have hB3 : Below wr.heap.size wr w3 := hB2.trans (hb3.mono (by simp))))
        all_goals
          go_wp2_with fail
          have hrow : IntsAt w3 v3 (([] : List Int).take 0 ++ [((0 : Nat) : Int)] ++ ([] : List Int).drop 0) := by
            have h := RowAt.owned hown3
            rw [← HTD.out.1, ← HTD.out.2] at h
            show RowAt w3 v3 ((([] : List Int).take 0 ++ [((0 : Nat) : Int)] ++ ([] : List Int).drop 0).map (Value.int .i64))
            simpa [List.map_append, List.map_take, List.map_drop] using h
          have hfr : Fresh w.heap.size v3 := (Fresh.owned hown3).mono (by have := hbel.size; first | exact this | (simp; omega))
          go_roundw
          case rel => exact ⟨c, 0 + 1, by omega, by assumption, by assumption, rfl, by go_num, Lib.hid ⟨_, hrow, hlen2.out, hins.out, hfr, fun h => absurd h (by omega), by have h := HS.out _ HL.out; rw [HQ.out (by first | rfl | trivial)] at h; exact h⟩, bel2' hbel hB3⟩
          case measure => simp [intOf] <;> omega
      · obtain ⟨p, cap, hsl⟩ := hl.shape
        subst hsl
        rw [hlen] at hl
        rw [hlen]
        have hrow : ∃ b off, p = some ⟨b, off, none⟩ ∧ i ≤ cap := by
          obtain ⟨b, off, e, h2, _⟩ := IntsAt.cellAt hl 0 (by omega)
          exact ⟨b, off, e, by omega⟩
        obtain ⟨b, off, rfl, hcap⟩ := hrow
        have s1 : (0 : Int) ≤ (k : Int) := by omega
        have s2 : (k : Int) ≤ (i : Int) := by omega
        have s3 : (k : Int) ≤ (cap : Int) := by omega
        have s4 : (i : Int) ≤ (cap : Int) := by omega
        have s5 : k ≤ i := hki
        have s6 : k ≤ cap := by omega
        have HT0 := RowAt.take hl k (by rw [List.length_map]; omega)
        obtain ⟨T, hT⟩ : ∃ T : List Value, (l.map (Value.int .i64)).take k = T := ⟨_, rfl⟩
        obtain ⟨D, hD⟩ : ∃ D : List Value, (l.map (Value.int .i64)).drop k = D := ⟨_, rfl⟩
        have lT : T.length = k := by rw [← hT, List.length_take, List.length_map]; omega
        have lD : D.length = i - k := by rw [← hD, List.length_drop, List.length_map]; omega
        have HO : Hid (∀ u ∈ T, u.oneCell' = true) := Lib.hid (by rw [← hT]; exact fun u hu => ints_one l u (List.mem_of_mem_take hu))
        have HO2 : Hid (∀ u ∈ D, u.oneCell' = true) := Lib.hid (by rw [← hD]; exact fun u hu => ints_one l u (List.mem_of_mem_drop hu))
        have HO1 : Hid (∀ u ∈ [Value.int .i64 (i : Int)], u.oneCell' = true) := Lib.hid (fun u hu => by rw [List.mem_singleton.1 hu]; rfl)
        rw [hT] at HT0
        have HT := Lib.hid HT0
        rcases Nat.eq_or_lt_of_le (show k ≤ cap by omega) with hck | hck
        · have hik : k = i := by omega
          subst hik
          subst hck
          have HD : Hid (RowAt wr (.slice (some ⟨b, off, none⟩) 0 0) D) := Lib.hid (by
            have : D = [] := List.eq_nil_of_length_eq_zero (by rw [lD]; omega)
            rw [this]; exact RowAt.empty (by omega) (fun h => by simp at h))
          have HTD := Lib.hid (And.intro hT hD)
          clear hP hl hlen hmem hfr hnil hst HT0 hT hD
          go_wp2_with (first
            | (go_at_call 8; ((with_reducible refine (C.out _).mono ?_); rintro e w1 ⟨rfl, rfl⟩)))
          go_region_law (first
            | (refine step_append_read erI (by rfl) (by rfl) (World.ownsRow_nil _ _ _ _) (by rfl) (xv := .slice (some ⟨b, off, none⟩) k k) ?_ (by rfl) HO.out ?_ ?_ (Nat.le_refl _) ?_; (first | exact HT.out.keep (Below.refl _ _).drew | exact (HT.out.keep (Below.refl _ _).drew).alloc _); omega; omega; intro v1 w1 hown1 hb1; have hB1 : Below wr.heap.size wr w1 := (by first | exact bel2' (Below.refl _ _).drew hb1 | exact bel2' (bal (Below.refl _ _).drew _) hb1))
            | (refine step_append_read erI (by rfl) (by rfl) (by first | exact hown1 | exact ownsRow_below hown1 ((Below.refl _ _).alloc (Nat.le_refl _) _)) (by rfl) (cs := [Value.int .i64 (k : Int)]) ?_ (by rfl) HO1.out ?_ ?_ ?_ ?_; (first | exact one_row w1 _ _ | exact ((one_row wr _ _).keep (Below.refl _ _).drew).keep hb1); (simp only [List.length_singleton]; omega); (simp only [List.length_singleton]; omega); (first | exact hb1.size | exact Nat.le_trans hb1.size (by simp)); intro v2 w2 hown2 hb2; have hB2 : Below wr.heap.size wr w2 := (by first | exact hB1.trans (hb2.mono (by simp)) | exact (bal hB1 _).trans (hb2.mono (by simp))))
            | (refine step_append_read erI (by rfl) (by rfl) hown2 (by rfl) (xv := .slice (some ⟨b, off, none⟩) 0 0) ?_ (by rfl) HO2.out ?_ ?_ ?_ ?_; exact HD.out.keep hB2; (simp only [List.length_singleton]; omega); (simp only [List.length_singleton]; omega); (first | exact hb2.size | exact Nat.le_trans (by first | exact hb1.size | exact Nat.le_trans hb1.size (by simp)) hb2.size); intro v3 w3 hown3 hb3; have hB3 : Below wr.heap.size wr w3 := hB2.trans (hb3.mono (by simp))))
          all_goals
            go_wp2_with fail
            have hrow : IntsAt w3 v3 (l.take k ++ [(k : Int)] ++ l.drop k) := by
              have h := RowAt.owned hown3
              rw [← HTD.out.1, ← HTD.out.2] at h
              show RowAt w3 v3 ((l.take k ++ [(k : Int)] ++ l.drop k).map (Value.int .i64))
              simpa [List.map_append, List.map_take, List.map_drop] using h
            have hfr : Fresh w.heap.size v3 := (Fresh.owned hown3).mono (by have := hbel.size; first | exact this | (simp; omega))
            go_roundw
            case rel => exact ⟨qq, k + 1, by omega, by assumption, by assumption, rfl, by go_num, Lib.hid ⟨_, hrow, hlen2.out, hins.out, hfr, fun h => absurd h (by omega), HS.out _ HL.out⟩, bel2' hbel hB3⟩
            case measure => simp [intOf] <;> omega
        · have hck2 : ¬ cap = k := by omega
          have HD0 := RowAt.dropK hl k (by rw [List.length_map]; omega)
          rw [hD] at HD0
          have HD := Lib.hid HD0
          clear HD0
          have HTD := Lib.hid (And.intro hT hD)
          clear hP hl hlen hmem hfr hnil hst HT0 hT hD
          go_wp2_with (first
            | (go_at_call 8; ((with_reducible refine (C.out _).mono ?_); rintro e w1 ⟨rfl, rfl⟩)))
          go_region_law (first
            | (refine step_append_read erI (by rfl) (by rfl) (World.ownsRow_nil _ _ _ _) (by rfl) (xv := .slice (some ⟨b, off, none⟩) k cap) ?_ (by rfl) HO.out ?_ ?_ (Nat.le_refl _) ?_; (first | exact HT.out.keep (Below.refl _ _).drew | exact (HT.out.keep (Below.refl _ _).drew).alloc _); omega; omega; intro v1 w1 hown1 hb1; have hB1 : Below wr.heap.size wr w1 := (by first | exact bel2' (Below.refl _ _).drew hb1 | exact bel2' (bal (Below.refl _ _).drew _) hb1))
            | (refine step_append_read erI (by rfl) (by rfl) (by first | exact hown1 | exact ownsRow_below hown1 ((Below.refl _ _).alloc (Nat.le_refl _) _)) (by rfl) (cs := [Value.int .i64 (i : Int)]) ?_ (by rfl) HO1.out ?_ ?_ ?_ ?_; (first | exact one_row w1 _ _ | exact ((one_row wr _ _).keep (Below.refl _ _).drew).keep hb1); (simp only [List.length_singleton]; omega); (simp only [List.length_singleton]; omega); (first | exact hb1.size | exact Nat.le_trans hb1.size (by simp)); intro v2 w2 hown2 hb2; have hB2 : Below wr.heap.size wr w2 := (by first | exact hB1.trans (hb2.mono (by simp)) | exact (bal hB1 _).trans (hb2.mono (by simp))))
            | (refine step_append_read erI (by rfl) (by rfl) hown2 (by rfl) (xv := .slice (some ⟨b, off + k, none⟩) (i - k) (cap - k)) ?_ (by rfl) HO2.out ?_ ?_ ?_ ?_; exact HD.out.keep hB2; (simp only [List.length_singleton]; omega); (simp only [List.length_singleton]; omega); (first | exact hb2.size | exact Nat.le_trans (by first | exact hb1.size | exact Nat.le_trans hb1.size (by simp)) hb2.size); intro v3 w3 hown3 hb3; have hB3 : Below wr.heap.size wr w3 := hB2.trans (hb3.mono (by simp))))
          all_goals
            go_wp2_with fail
            have hrow : IntsAt w3 v3 (l.take k ++ [(i : Int)] ++ l.drop k) := by
              have h := RowAt.owned hown3
              rw [← HTD.out.1, ← HTD.out.2] at h
              show RowAt w3 v3 ((l.take k ++ [(i : Int)] ++ l.drop k).map (Value.int .i64))
              simpa [List.map_append, List.map_take, List.map_drop] using h
            have hfr : Fresh w.heap.size v3 := (Fresh.owned hown3).mono (by have := hbel.size; first | exact this | (simp; omega))
            go_roundw
            case rel => exact ⟨qq, i + 1, by omega, by assumption, by assumption, rfl, by go_num, Lib.hid ⟨_, hrow, hlen2.out, hins.out, hfr, fun h => absurd h (by omega), HS.out _ HL.out⟩, bel2' hbel hB3⟩
            case measure => simp [intOf] <;> omega
    · obtain rfl : i = n := by omega
      go_wp2_with fail
      go_ret
      exact ⟨_, rfl, ⟨_, hP.out⟩, hbel⟩

theorem perm_x (n : Nat) (hn : n ≤ 12) (code : Int) (hc1 : -9223372036854775808 ≤ code) (hc2 : code ≤ 9223372036854775807) (w : World) :
    Calls Tryz.prog 11 #[.int .i64 n, .int .i64 code] w fun e w' => ∃ v, e = .returned v ∧ IntsAt w' v (permS n code) ∧ Fresh w.heap.size v ∧ Below w.heap.size w w' :=
  (perm_c n hn code hc1 hc2 w).mono (by
    rintro e w' ⟨v, rfl, ⟨c, l, h1, _, _, h4, _, h6⟩, hb⟩
    have e1 : permS n code = l := by unfold permS; rw [h6]
    exact ⟨v, rfl, by rw [e1]; exact h1, h4, hb⟩)

end Go.Proofs.YtbnhgmikegdppaaGreat
