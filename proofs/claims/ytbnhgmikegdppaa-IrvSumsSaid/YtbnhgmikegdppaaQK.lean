/- Contracts and plain facts, part 11: Ib, Ic, Id, Ie, Ig, Ih, Ii, Ij. No condition beyond those that each theorem states. -/
import Derived.Test.YtbnhgmikegdppaaQJ
import Derived.BigQuiet
import Derived.Deep.RegionHeld3
import Derived.Deep.RegionLaw
/- pile.Prefers. -/
namespace Go.Proofs.Nums

/-- The ballots that rank a, and b lower or not at all. -/
def prefS (gs : List Grp) (a b : Int) : Int := sumF (fun p => decide (placeN p a < placeN p b)) gs
theorem prefS_snoc (gs : List Grp) (g : Grp) (a b : Int) : prefS (gs ++ [g]) a b = prefS gs a b + (if placeN g.p a < placeN g.p b then g.n else 0) := by
  unfold prefS
  rw [sumF_snoc]
  congr 1
  by_cases h : placeN g.p a < placeN g.p b <;> simp [h]
theorem placeN_lt {l : List Int} {x : Int} (h : x ∈ l) : placeN l x < l.length := by
  induction l with
  | nil => simp at h
  | cons y t ih =>
    unfold placeN
    split
    · simp
    · next e =>
      rcases List.mem_cons.1 h with g | g
      · exact absurd g.symm e
      · have := ih g; simp; omega
/-- How it looks to the code: by the indices. -/
theorem pref_idx (l : List Int) (a b : Int) : ∃ x y : Int, indexZ l a = x ∧ indexZ l b = y ∧ ((0 ≤ x ∧ (y < 0 ∨ x < y)) ↔ placeN l a < placeN l b) := by
  refine ⟨_, _, rfl, rfl, ?_⟩
  unfold indexZ
  have h1 := placeN_le l a
  have h2 := placeN_le l b
  by_cases ha : a ∈ l
  · rw [if_pos ha]
    have ha' := placeN_lt ha
    by_cases hb : b ∈ l
    · rw [if_pos hb]; omega
    · rw [if_neg hb, placeN_none hb]; omega
  · rw [if_neg ha, placeN_none ha]
    constructor
    · intro h; omega
    · intro h; omega

end Go.Proofs.Nums
namespace Go.Proofs.Ytbnhgmikegdppaa
open Go.RowKit Go.Proofs.Kit Go.Proofs.Nums

set_option maxRecDepth 100000 in
set_option maxHeartbeats 8000000 in
theorem prefers_c {v : Value} {gs : List Grp} {w : World} (hv : PileAt w v gs) (hp : PileP 7 gs) (a b : Int) (hab : a ≠ b) :
    Calls Try.prog 40 #[v, .int .i64 a, .int .i64 b] w fun e w' => e = .returned (.int .i64 (prefS gs a b)) ∧ Below w.heap.size w w' := by
  have HP := Lib.hid hp
  have AN := isany_c hv
  rw [show pileS 7 gs = true from pile_true.2 hp] at AN
  have AN := Lib.hid AN
  have HV := Lib.hid hv
  have hlm := SliceOf.len hv
  obtain ⟨p, c, rfl⟩ := hv.shp
  obtain ⟨len, hlen⟩ : ∃ n, gs.length = n := ⟨_, rfl⟩
  have HN := Lib.hid hlen
  rw [hlen] at HV hlm AN ⊢
  have zab : (a == b) = false := by rw [beq_eq_false_iff_ne]; exact hab
  clear hv hp hlen
  go_enter Try.func40, Try.ntmps40
  go_wp2_with (go_at_call 67; ((with_reducible refine AN.out.mono ?_); rintro _ w1 ⟨rfl, hb1⟩))
  go_loopw [7, 22] (fun sv iv wr => ∃ k : Nat, ∃ s : Int, k ≤ len ∧ iv = .int .i64 k ∧ sv = .int .i64 s ∧ Below w.heap.size w wr ∧ Hid (s = prefS (gs.take k) a b) ∧ 0 ≤ s ∧ s ≤ 100000) (fun _ iv _ => len - (intOf iv).toNat)
  case atStart => exact ⟨0, 0, by omega, rfl, rfl, hb1, Lib.hid rfl, by omega, by omega⟩
  case round =>
    obtain ⟨k, s, hk, rfl, rfl, hbel, hS, s0, s1⟩ := hrel
    by_cases hlt : k < len
    · have hltz : (k : Int) < (len : Int) := by omega
      obtain ⟨g, hg⟩ : ∃ g, gs.getD k g0 = g := ⟨_, rfl⟩
      obtain ⟨bb, off, q, m, d, hp0, hc1, hc2, cl0, cl1, HI, hm⟩ := (HV.out.keep hbel).cellAt (by rw [HN.out]; exact hlt) hg
      subst hp0
      have hpos := HP.out.pos g (mem_getG (by rw [HN.out]; exact hlt) hg)
      have htk := take_snoc_g (l := gs) (k := k) (by rw [HN.out]; exact hlt)
      rw [hg] at htk
      have htb : totS (gs.take k) + g.n ≤ 100000 := by
        have h2 := tot_take HP.out.pos (k + 1)
        rw [htk, tot_snoc] at h2
        have := HP.out.tot
        omega
      have hpk := pos_take HP.out.pos k
      have hst : s ≤ totS (gs.take k) := by rw [hS.out]; exact sumF_le hpk fun _ _ _ => rfl
      obtain ⟨y, hy⟩ : ∃ y, g.n = y := ⟨_, rfl⟩
      rw [hy] at cl1 hpos htb
      obtain ⟨ia, ib, e1, e2, e3⟩ := pref_idx g.p a b
      have hsn := prefS_snoc (gs.take k) g a b
      rw [← htk, ← hS.out, hy] at hsn
      have hbl : Below wr.heap.size wr (wr.alloc (.cells #[.slice q m d, .int .i64 y] 85)) := (Below.refl _ _).alloc (Nat.le_refl _) _
      have KX := Blk.new wr #[.slice q m d, .int .i64 y] 85
      obtain ⟨X, hX⟩ : ∃ X, wr.alloc (.cells #[.slice q m d, .int .i64 y] 85) = X := ⟨_, rfl⟩
      rw [hX] at hbl KX
      have x0 : X.cell? ⟨wr.heap.size, 0, none⟩ = some (.slice q m d) := KX.2.1 0
      have x1 : X.cell? ⟨wr.heap.size, 1, none⟩ = some (.int .i64 y) := KX.2.1 1
      have y0 : X.drew.cell? ⟨wr.heap.size, 0, none⟩ = some (.slice q m d) := x0
      have hbX : Below w.heap.size w X := hbel.trans (hbl.mono (by have := hbel.size; omega))
      have IA : Hid (∀ r, Calls Try.prog 70 #[.slice q m d, .int .i64 a] (X.drewN r) fun e w' => e = .returned (.int .i64 ia) ∧ w' = X.drewN r) := Lib.hid (fun r => (index_c (HI.keep (below_drewN hbl r)) a).mono fun _ _ ⟨h1, h2⟩ => ⟨by rw [h1, e1], h2.symm⟩)
      have IB : Hid (∀ r, Calls Try.prog 70 #[.slice q m d, .int .i64 b] (X.drewN r) fun e w' => e = .returned (.int .i64 ib) ∧ w' = X.drewN r) := Lib.hid (fun r => (index_c (HI.keep (below_drewN hbl r)) b).mono fun _ _ ⟨h1, h2⟩ => ⟨by rw [h1, e2], h2.symm⟩)
      have hws : IntKind.i64.wrap (s + y) = s + y := w64 (by omega) (by omega)
      by_cases hpl : placeN g.p a < placeN g.p b
      · rw [if_pos hpl] at hsn
        obtain ⟨j1, j2⟩ := e3.2 hpl
        have HS2 := Lib.hid hsn.symm
        have d1 : decide (0 ≤ ia) = true := decide_eq_true j1
        by_cases j3 : ib < 0
        · have d2 : decide (ib < 0) = true := decide_eq_true j3
          clear e1 e2 e3 hsn hpl htk hg hy hm HI j2
          go_wp2_with fail
          go_quiet ((go_at_call 70; first | with_reducible exact Calls.quiet_of_same (IA.out _) | with_reducible exact Calls.quiet_of_same (IB.out _)))
          all_goals
            go_wp2_with fail
            go_roundw
            case rel => exact ⟨k + 1, s + y, by omega, by go_num, rfl, below_drewN hbX _, HS2, by omega, by omega⟩
            case measure => simp [intOf] <;> omega
        · have d2 : decide (ib < 0) = false := decide_eq_false j3
          have d3 : decide (ia < ib) = true := decide_eq_true (by omega)
          clear e1 e2 e3 hsn hpl htk hg hy hm HI j2
          go_wp2_with fail
          go_quiet ((go_at_call 70; first | with_reducible exact Calls.quiet_of_same (IA.out _) | with_reducible exact Calls.quiet_of_same (IB.out _)))
          all_goals
            go_wp2_with fail
            go_roundw
            case rel => exact ⟨k + 1, s + y, by omega, by go_num, rfl, below_drewN hbX _, HS2, by omega, by omega⟩
            case measure => simp [intOf] <;> omega
      · rw [if_neg hpl, Int.add_zero] at hsn
        have HS2 := Lib.hid hsn.symm
        have j0 : ¬ (0 ≤ ia ∧ (ib < 0 ∨ ia < ib)) := fun h => hpl (e3.1 h)
        by_cases j1 : 0 ≤ ia
        · have d1 : decide (0 ≤ ia) = true := decide_eq_true j1
          have d2 : decide (ib < 0) = false := decide_eq_false (by omega)
          have d3 : decide (ia < ib) = false := decide_eq_false (by omega)
          clear e1 e2 e3 hsn hpl htk hg hy hm HI j0
          go_wp2_with fail
          go_quiet ((go_at_call 70; first | with_reducible exact Calls.quiet_of_same (IA.out _) | with_reducible exact Calls.quiet_of_same (IB.out _)))
          all_goals
            go_wp2_with fail
            go_roundw
            case rel => exact ⟨k + 1, s, by omega, by go_num, rfl, below_drewN hbX _, HS2, s0, s1⟩
            case measure => simp [intOf] <;> omega
        · have d1 : decide (0 ≤ ia) = false := decide_eq_false j1
          clear e1 e2 e3 hsn hpl htk hg hy hm HI j0
          go_wp2_with fail
          go_quiet ((go_at_call 70; first | with_reducible exact Calls.quiet_of_same (IA.out _) | with_reducible exact Calls.quiet_of_same (IB.out _)))
          all_goals
            go_wp2_with fail
            go_roundw
            case rel => exact ⟨k + 1, s, by omega, by go_num, rfl, below_drewN hbX _, HS2, s0, s1⟩
            case measure => simp [intOf] <;> omega
    · have hltz : ¬ (k : Int) < (len : Int) := by omega
      have HX : Hid (s = prefS gs a b) := Lib.hid (by rw [hS.out, List.take_of_length_le (by rw [HN.out]; omega)])
      go_wp2_with fail
      go_ret
      exact ⟨ret_ii HX.out, hbel⟩

end Go.Proofs.Ytbnhgmikegdppaa

/- pile.Marked. -/
namespace Go.Proofs.Ytbnhgmikegdppaa
open Go.RowKit Go.Proofs.Kit Go.Proofs.Nums

set_option maxHeartbeats 1000000 in
theorem marked1_c {q : Option Addr} {m d : Nat} {y : Int} (w : World) :
    Calls Try.prog 72 #[.agg #[.slice q m d, .int .i64 y]] w fun e w' => e = .returned (.int .i64 (if m = 0 then 0 else y)) ∧ Below w.heap.size w w' := by
  have hbl : Below w.heap.size w (w.alloc (.cells #[.slice q m d, .int .i64 y] 85)) := (Below.refl _ _).alloc (Nat.le_refl _) _
  by_cases h : m = 0
  · subst h
    go_enter Try.func72, Try.ntmps72
    go_wp2_with fail
    go_ret
    exact ⟨rfl, hbl⟩
  · have hz : ((m : Int) == 0) = false := by rw [beq_eq_false_iff_ne]; omega
    rw [if_neg h]
    go_enter Try.func72, Try.ntmps72
    go_wp2_with fail
    go_ret
    exact ⟨rfl, hbl⟩

theorem marked_snoc (gs : List Grp) (g : Grp) : markedS (gs ++ [g]) = markedS gs + (if g.p.length = 0 then 0 else g.n) := by
  unfold markedS
  rw [sumF_snoc]
  congr 1
  cases h : g.p <;> simp
set_option maxRecDepth 100000 in
set_option maxHeartbeats 8000000 in
theorem msum_c {v : Value} {gs : List Grp} {w : World} (hv : PileAt w v gs) (hp : PileP 7 gs) :
    Calls Try.prog 71 #[v, .func (.func 72) #[] #[]] w fun e w' => e = .returned (.int .i64 (markedS gs)) ∧ Below w.heap.size w w' := by
  have HP := Lib.hid hp
  have HV := Lib.hid hv
  have hlm := SliceOf.len hv
  obtain ⟨p, c, rfl⟩ := hv.shp
  obtain ⟨len, hlen⟩ : ∃ n, gs.length = n := ⟨_, rfl⟩
  have HN := Lib.hid hlen
  rw [hlen] at HV hlm ⊢
  clear hv hp hlen
  go_enter Try.func71, Try.ntmps71
  go_wp2_with fail
  go_loopw [5, 10] (fun sv iv wr => ∃ k : Nat, ∃ s : Int, k ≤ len ∧ iv = .int .i64 k ∧ sv = .int .i64 s ∧ Below w.heap.size w wr ∧ Hid (s = markedS (gs.take k)) ∧ 0 ≤ s ∧ s ≤ 100000) (fun _ iv _ => len - (intOf iv).toNat)
  case atStart => exact ⟨0, 0, by omega, rfl, rfl, Below.refl _ _, Lib.hid rfl, by omega, by omega⟩
  case round =>
    obtain ⟨k, s, hk, rfl, rfl, hbel, hS, s0, s1⟩ := hrel
    by_cases hlt : k < len
    · have hltz : (k : Int) < (len : Int) := by omega
      obtain ⟨g, hg⟩ : ∃ g, gs.getD k g0 = g := ⟨_, rfl⟩
      obtain ⟨bb, off, q, m, d, hp0, hc1, hc2, cl0, cl1, HI, hm⟩ := (HV.out.keep hbel).cellAt (by rw [HN.out]; exact hlt) hg
      subst hp0
      have hpos := HP.out.pos g (mem_getG (by rw [HN.out]; exact hlt) hg)
      have htk := take_snoc_g (l := gs) (k := k) (by rw [HN.out]; exact hlt)
      rw [hg] at htk
      have htb : totS (gs.take k) + g.n ≤ 100000 := by
        have h2 := tot_take HP.out.pos (k + 1)
        rw [htk, tot_snoc] at h2
        have := HP.out.tot
        omega
      have hpk := pos_take HP.out.pos k
      have hst : s ≤ totS (gs.take k) := by rw [hS.out]; exact sumF_le hpk fun _ _ _ => rfl
      obtain ⟨y, hy⟩ : ∃ y, g.n = y := ⟨_, rfl⟩
      rw [hy] at cl1 hpos htb
      have hsn := marked_snoc (gs.take k) g
      rw [← htk, ← hS.out, hy, ← hm] at hsn
      have hbl : Below wr.heap.size wr (wr.alloc (.cells #[.slice q m d, .int .i64 y] 85)) := (Below.refl _ _).alloc (Nat.le_refl _) _
      have KX := Blk.new wr #[.slice q m d, .int .i64 y] 85
      obtain ⟨X, hX⟩ : ∃ X, wr.alloc (.cells #[.slice q m d, .int .i64 y] 85) = X := ⟨_, rfl⟩
      rw [hX] at hbl KX
      have x0 : X.cell? ⟨wr.heap.size, 0, none⟩ = some (.slice q m d) := KX.2.1 0
      have x1 : X.cell? ⟨wr.heap.size, 1, none⟩ = some (.int .i64 y) := KX.2.1 1
      have hbX : Below w.heap.size w X := hbel.trans (hbl.mono (by have := hbel.size; omega))
      have C := Lib.hid (marked1_c (q := q) (m := m) (d := d) (y := y) X)
      obtain ⟨z, hz⟩ : ∃ z : Int, (if m = 0 then 0 else y) = z := ⟨_, rfl⟩
      have hzb : 0 ≤ z ∧ z ≤ y := by rw [← hz]; split <;> omega
      rw [hz] at C hsn
      have HS2 := Lib.hid hsn.symm
      have hws : IntKind.i64.wrap (s + z) = s + z := w64 (by omega) (by omega)
      clear hsn htk hg hy hm HI hz
      go_wp2_with (go_at_call 72; ((with_reducible refine C.out.mono ?_); rintro _ w2 ⟨rfl, hb2⟩; have hB2 := bel2' hbX hb2))
      go_roundw
      case rel => exact ⟨k + 1, s + z, by omega, by go_num, rfl, hB2, HS2, by omega, by omega⟩
      case measure => simp [intOf] <;> omega
    · have hltz : ¬ (k : Int) < (len : Int) := by omega
      have HX : Hid (s = markedS gs) := Lib.hid (by rw [hS.out, List.take_of_length_le (by rw [HN.out]; omega)])
      go_wp2_with fail
      go_ret
      exact ⟨ret_ii HX.out, hbel⟩

set_option maxHeartbeats 1000000 in
theorem marked_c {v : Value} {gs : List Grp} {w : World} (hv : PileAt w v gs) (hp : PileP 7 gs) :
    Calls Try.prog 41 #[v] w fun e w' => e = .returned (.int .i64 (markedS gs)) ∧ Below w.heap.size w w' := by
  have AN := isany_c hv
  rw [show pileS 7 gs = true from pile_true.2 hp] at AN
  have AN := Lib.hid AN
  have SM : Hid (∀ w', Below w.heap.size w w' → Calls Try.prog 71 #[v, .func (.func 72) #[] #[]] w' fun e w'' => e = .returned (.int .i64 (markedS gs)) ∧ Below w'.heap.size w' w'') := Lib.hid (fun w' h => msum_c (hv.keep h) hp)
  clear hv hp
  go_enter Try.func41, Try.ntmps41
  go_wp2_with (first
    | (go_at_call 67; ((with_reducible refine AN.out.mono ?_); rintro _ w1 ⟨rfl, hb1⟩))
    | (go_at_call 71; ((with_reducible refine (SM.out _ hb1).mono ?_); rintro _ w2 ⟨rfl, hb2⟩)))
  go_ret
  exact ⟨rfl, bel2' hb1 hb2⟩

end Go.Proofs.Ytbnhgmikegdppaa

/- pile.Fit, for IRV. -/
namespace Go.Proofs.Ytbnhgmikegdppaa
open Go.RowKit Go.Proofs.Kit Go.Proofs.Nums

/-- pile.Fit by IRV. -/
noncomputable def fitS (n : Nat) (cm seats digits ties : Int) (gs : List Grp) (lots : List Int) : Int :=
  if cm = 1 then (if 1 ≤ n ∧ n ≤ 7 ∧ seats = 1 ∧ digits = 0 ∧ 1 ≤ ties ∧ ties ≤ 3 then (if pileS n gs = true then (if permB n lots = true then 0 else 13) else 8) else 4) else 5
/-- An api.Contest: its name, its candidates, and seven numbers. -/
def conV (nm : Value) (p : Option Addr) (n c : Nat) (cm seats ranks digits ties over skip : Int) : Value :=
  .agg #[nm, .slice p n c, .int .i64 cm, .int .i64 seats, .int .i64 ranks, .int .i64 digits, .int .i64 ties, .int .i64 over, .int .i64 skip]

set_option maxRecDepth 100000 in
set_option maxHeartbeats 8000000 in
theorem fit_c {nm : Value} {p : Option Addr} {n c : Nat} {cm seats ranks digits ties over skip : Int} {vg vl : Value} {gs : List Grp} {lots : List Int} {w : World} (_hn : n ≤ 1000) (hg : PileAt w vg gs) (hl : IntsAt w vl lots) :
    Calls Try.prog 46 #[.int .i64 1, conV nm p n c cm seats ranks digits ties over skip, vg, vl] w fun e w' => e = .returned (.int .i64 (fitS n cm seats digits ties gs lots)) ∧ Below w.heap.size w w' := by
  have hbA : Below w.heap.size w (w.alloc (.cells #[nm, .slice p n c, .int .i64 cm, .int .i64 seats, .int .i64 ranks, .int .i64 digits, .int .i64 ties, .int .i64 over, .int .i64 skip] 40)) := (Below.refl _ _).alloc (Nat.le_refl _) _
  unfold conV fitS
  by_cases h1 : cm = 1
  · subst h1
    rw [if_pos rfl]
    by_cases hall : 1 ≤ n ∧ n ≤ 7 ∧ seats = 1 ∧ digits = 0 ∧ 1 ≤ ties ∧ ties ≤ 3
    · obtain ⟨a1, a2, rfl, rfl, a5, a6⟩ := hall
      rw [if_pos ⟨a1, a2, rfl, rfl, a5, a6⟩]
      have d1 : decide ((n : Int) < 1) = false := decide_eq_false (by omega)
      have d2 : decide ((7 : Int) < n) = false := decide_eq_false (by omega)
      have d3 : decide (ties < 1) = false := decide_eq_false (by omega)
      have d4 : decide (3 < ties) = false := decide_eq_false (by omega)
      have PI : Hid (∀ w', Below w.heap.size w w' → Calls Try.prog 73 #[.int .i64 n, vg] w' fun e w'' => e = .returned (.bool (pileS n gs)) ∧ Below w'.heap.size w' w'') := Lib.hid (fun w' h => ispile_c (hg.keep h) n a2)
      have PE : Hid (∀ w', Below w.heap.size w w' → Calls Try.prog 77 #[vl, .int .i64 n] w' fun e w'' => e = .returned (.bool (permB n lots)) ∧ Below w'.heap.size w' w'') := Lib.hid (fun w' h => isperm_c (hl.keep h) n a2)
      obtain ⟨x, hx⟩ : ∃ x, pileS n gs = x := ⟨_, rfl⟩
      obtain ⟨y, hy⟩ : ∃ x, permB n lots = x := ⟨_, rfl⟩
      rw [hx] at PI ⊢
      rw [hy] at PE ⊢
      clear hx hy hg hl
      cases x <;> cases y <;>
      ( go_enter Try.func46, Try.ntmps46
        go_wp2_with (first
          | (go_at_call 73; ((with_reducible refine (PI.out _ hbA).mono ?_); rintro _ w1 ⟨rfl, hb1⟩; have hB1 := bel2' hbA hb1))
          | (go_at_call 77; ((with_reducible refine (PE.out _ hB1).mono ?_); rintro _ w2 ⟨rfl, hb2⟩; have hB2 := bel2' hB1 hb2)))
        go_ret
        first | exact ⟨rfl, hB2⟩ | exact ⟨rfl, hB1⟩)
    · rw [if_neg hall]
      clear hg hl
      by_cases a1 : (n : Int) < 1
      · have d1 : decide ((n : Int) < 1) = true := decide_eq_true a1
        go_enter Try.func46, Try.ntmps46
        go_wp2_with fail
        go_ret
        exact ⟨rfl, hbA⟩
      have d1 : decide ((n : Int) < 1) = false := decide_eq_false a1
      by_cases a2 : (7 : Int) < n
      · have d2 : decide ((7 : Int) < n) = true := decide_eq_true a2
        go_enter Try.func46, Try.ntmps46
        go_wp2_with fail
        go_ret
        exact ⟨rfl, hbA⟩
      have d2 : decide ((7 : Int) < n) = false := decide_eq_false a2
      by_cases a3 : seats < 1
      · have d3 : decide (seats < 1) = true := decide_eq_true a3
        go_enter Try.func46, Try.ntmps46
        go_wp2_with fail
        go_ret
        exact ⟨rfl, hbA⟩
      have d3 : decide (seats < 1) = false := decide_eq_false a3
      by_cases a4 : 5 < seats
      · have d4 : decide (5 < seats) = true := decide_eq_true a4
        go_enter Try.func46, Try.ntmps46
        go_wp2_with fail
        go_ret
        exact ⟨rfl, hbA⟩
      have d4 : decide (5 < seats) = false := decide_eq_false a4
      by_cases a5 : seats = 1
      · subst a5
        by_cases a6 : digits = 0
        · subst a6
          by_cases a7 : ties < 1
          · have d7 : decide (ties < 1) = true := decide_eq_true a7
            go_enter Try.func46, Try.ntmps46
            go_wp2_with fail
            go_ret
            exact ⟨rfl, hbA⟩
          have d7 : decide (ties < 1) = false := decide_eq_false a7
          have d8 : decide (3 < ties) = true := decide_eq_true (by omega)
          go_enter Try.func46, Try.ntmps46
          go_wp2_with fail
          go_ret
          exact ⟨rfl, hbA⟩
        · have e6 : (digits == 0) = false := by rw [beq_eq_false_iff_ne]; exact a6
          go_enter Try.func46, Try.ntmps46
          go_wp2_with fail
          go_ret
          exact ⟨rfl, hbA⟩
      · have e5 : (seats == 1) = false := by rw [beq_eq_false_iff_ne]; exact a5
        have e5' : (seats != 1) = true := by simpa using a5
        go_enter Try.func46, Try.ntmps46
        go_wp2_with fail
        go_ret
        exact ⟨rfl, hbA⟩
  · have d1 : (cm == 1) = false := by rw [beq_eq_false_iff_ne]; exact h1
    have d2 : (cm != 1) = true := by simpa using h1
    rw [if_neg h1]
    go_enter Try.func46, Try.ntmps46
    go_wp2_with fail
    go_ret
    exact ⟨rfl, hbA⟩

end Go.Proofs.Ytbnhgmikegdppaa

/- The state of a count while it runs; irv.newCount. -/
namespace Go.Proofs.Ytbnhgmikegdppaa
open Go.RowKit Go.Proofs.Kit Go.Proofs.Nums

/-- A row of flags of the call's own. -/
def OwnBool (w : World) (base g n : Nat) (o : List Bool) : Prop := o.length = n ∧ w.ownsRow base 4 1 (.slice (some ⟨g, 0, none⟩) n n) n (o.map Value.bool)
theorem OwnBool.read {w : World} {base g n : Nat} {o : List Bool} (h : OwnBool w base g n o) : BoolsAt w (.slice (some ⟨g, 0, none⟩) n n) o := RowAt.owned h.2
theorem OwnBool.cell {w : World} {base g n : Nat} {o : List Bool} (h : OwnBool w base g n o) {j : Nat} (hj : j < n) : w.cell? ⟨g, j, none⟩ = some (.bool (o.getD j false)) := by
  have hl : j < o.length := by rw [h.1]; exact hj
  rw [h.2.cellAt j (by omega), List.getElem?_map, List.getD_eq_getElem?_getD, List.getElem?_eq_getElem hl]; rfl
theorem OwnBool.free {w : World} {base g n : Nat} {o : List Bool} (h : OwnBool w base g n o) (j : Nat) : w.frozen? ⟨g, j, none⟩ = false := h.2.frozenAt j
theorem OwnBool.put {w : World} {base g n : Nat} {o : List Bool} (h : OwnBool w base g n o) (j : Nat) (x : Bool) :
    OwnBool (w.setCell ⟨g, j, none⟩ (.bool x)) base g n (o.set j x) ∧ Below base w (w.setCell ⟨g, j, none⟩ (.bool x)) := by
  have hs := h.2.stored j (.bool x)
  refine ⟨⟨by rw [List.length_set]; exact h.1, ?_⟩, ?_⟩
  · rw [List.map_set]; exact hs.1
  · exact (Below.refl base w).setCell (h.2.lt g rfl).1 _
theorem OwnBool.keep {w w' : World} {base g n : Nat} {o : List Bool} (h : OwnBool w base g n o) (hb : Below w.heap.size w w') : OwnBool w' base g n o := ⟨h.1, ownsRow_below h.2 hb⟩
theorem OwnBool.made {w : World} {base g n : Nat} (h : w.ownsRow base 4 1 (.slice (some ⟨g, 0, none⟩) n n) n (madeCells (Value.bool false).cells (n * 1)).toList) : OwnBool w base g n (List.replicate n false) := by
  refine ⟨List.length_replicate, ?_⟩
  rw [show (Value.bool false).cells = #[.bool false] from rfl, toList_madeCells_one, Nat.mul_one] at h
  rw [List.map_replicate]; exact h
theorem erB : ElemRow Try.prog 46 4 (.bool false) 1 1 := ⟨Try.underlying46, by kernel_rfl, rfl, by decide⟩

/-- The flags of newCount on the way: the first k are set. -/
def setTo (n k : Nat) : List Bool := List.replicate k true ++ List.replicate (n - k) false
theorem setTo_step {n k : Nat} (h : k < n) : (setTo n k).set k true = setTo n (k + 1) := by
  unfold setTo
  rw [List.set_append_right _ _ (by simp), List.length_replicate, Nat.sub_self, show n - k = (n - (k + 1)) + 1 by omega, List.replicate_succ, List.set_cons_zero, List.replicate_succ' (n := k), List.append_assoc]
  rfl
theorem setTo_all (n : Nat) : setTo n n = List.replicate n true := by
  unfold setTo
  rw [Nat.sub_self]
  simp
theorem setTo_none (n : Nat) : setTo n 0 = List.replicate n false := by
  unfold setTo
  simp

set_option maxRecDepth 100000 in
set_option maxHeartbeats 4000000 in
theorem newcount_c {nm : Value} {p pg pl : Option Addr} {n c ng cg nl cl : Nat} {cm seats ranks digits ties over skip : Int} {w : World} (h1 : 1 ≤ n) (h7 : n ≤ 7) :
    Calls Try.prog 47 #[conV nm p n c cm seats ranks digits ties over skip, .slice pg ng cg, .slice pl nl cl] w fun e w' => ∃ B g, e = .returned (.pointer (some ⟨B, 0, none⟩)) ∧
      Blk B (cntA nm (.slice p n c) (.int .i64 cm) (.int .i64 seats) (.int .i64 ranks) (.int .i64 digits) ties (.int .i64 over) (.int .i64 skip) (.slice pg ng cg) (.slice pl nl cl) (.slice (some ⟨g, 0, none⟩) n n) (.slice none 0 0)) w' ∧
      OwnBool w' g g n (List.replicate n true) ∧ w.heap.size ≤ g ∧ w.heap.size ≤ B ∧ B < w'.heap.size ∧ g < w'.heap.size ∧ B ≠ g ∧ Below w.heap.size w w' := by
  unfold conV cntA
  have hbA : Below w.heap.size w (w.alloc (.cells #[nm, .slice p n c, .int .i64 cm, .int .i64 seats, .int .i64 ranks, .int .i64 digits, .int .i64 ties, .int .i64 over, .int .i64 skip] 40)) := (Below.refl _ _).alloc (Nat.le_refl _) _
  have KX := Blk.new w #[nm, .slice p n c, .int .i64 cm, .int .i64 seats, .int .i64 ranks, .int .i64 digits, .int .i64 ties, .int .i64 over, .int .i64 skip] 40
  obtain ⟨X, hX⟩ : ∃ X, w.alloc (.cells #[nm, .slice p n c, .int .i64 cm, .int .i64 seats, .int .i64 ranks, .int .i64 digits, .int .i64 ties, .int .i64 over, .int .i64 skip] 40) = X := ⟨_, rfl⟩
  have hXs : X.heap.size = w.heap.size + 1 := by rw [← hX]; simp
  have HXS := Lib.hid hXs
  rw [hX] at hbA KX
  have KX := Lib.hid KX
  have x1 : X.cell? ⟨w.heap.size, 1, none⟩ = some (.slice p n c) := KX.out.2.1 1
  clear hXs
  go_enter Try.func47, Try.ntmps47
  go_wp2_with (at_make; go_must (refine make_any erB rfl rfl rfl rfl (by omega) (by omega) (by omega) ?_); intro w7 hown7 hb7)
  rw [show ((n : Int)).toNat = n by omega] at *
  have own7 := OwnBool.made hown7
  clear hown7
  obtain ⟨G, hG⟩ : ∃ G, X.heap.size = G := ⟨_, rfl⟩
  have HGe := Lib.hid hG
  have hGw : w.heap.size < G := by have := HXS.out; omega
  rw [hG] at own7 hb7 ⊢
  clear hG hX
  go_loopw [15] (fun iv wr => ∃ k : Nat, k ≤ n ∧ iv = .int .i64 k ∧ Below G X wr ∧ OwnBool wr G G n (setTo n k)) (fun iv _ => n - (intOf iv).toNat)
  case atStart => exact ⟨0, by omega, rfl, hb7, by rw [setTo_none]; exact own7⟩
  case round =>
    obtain ⟨k, hk, rfl, hbel, hO⟩ := hrel
    by_cases hlt : k < n
    · have hltz : (k : Int) < (n : Int) := by omega
      have hcell := hO.cell hlt
      have hfr := hO.free k
      have hput := hO.put k true
      rw [setTo_step hlt] at hput
      go_wp2_with fail
      go_roundw
      case rel => exact ⟨k + 1, by omega, by go_num, hbel.trans hput.2, hput.1⟩
      case measure => simp [intOf] <;> omega
    · obtain rfl : k = n := by omega
      rw [setTo_all] at hO
      have hbX : Below X.heap.size X wr := by rw [HGe.out]; exact hbel
      have KW := KX.out.keep hbX
      have hbw := bel2' hbA hbX
      have c0 : wr.cell? ⟨w.heap.size, 0, none⟩ = some nm := KW.2.1 0
      have c1 : wr.cell? ⟨w.heap.size, 1, none⟩ = some (.slice p k c) := KW.2.1 1
      have c2 : wr.cell? ⟨w.heap.size, 2, none⟩ = some (.int .i64 cm) := KW.2.1 2
      have c3 : wr.cell? ⟨w.heap.size, 3, none⟩ = some (.int .i64 seats) := KW.2.1 3
      have c4 : wr.cell? ⟨w.heap.size, 4, none⟩ = some (.int .i64 ranks) := KW.2.1 4
      have c5 : wr.cell? ⟨w.heap.size, 5, none⟩ = some (.int .i64 digits) := KW.2.1 5
      have c6 : wr.cell? ⟨w.heap.size, 6, none⟩ = some (.int .i64 ties) := KW.2.1 6
      have c7 : wr.cell? ⟨w.heap.size, 7, none⟩ = some (.int .i64 over) := KW.2.1 7
      have c8 : wr.cell? ⟨w.heap.size, 8, none⟩ = some (.int .i64 skip) := KW.2.1 8
      have hO := Lib.hid hO
      have KXh := Lib.hid KW
      have hGs := hbel.size
      have hgg := (hO.out.2.lt G rfl).2
      clear KW
      go_wp2_with fail
      go_ret
      exact ⟨wr.heap.size, G, rfl, Blk.new wr _ _, hO.out.keep ((Below.refl _ _).alloc (Nat.le_refl _) _), by omega, hbw.size, by simp, by simp; omega, by omega, hbw.alloc hbw.size _⟩

end Go.Proofs.Ytbnhgmikegdppaa

/- Two lists under construction side by side. Over any program. -/
namespace Go.Proofs.Kit
open Go.RowKit

theorem ownsRow_block {w w' : World} {base : Nat} {e : TypeId} {k n : Nat} {v : Value} {cs : List Value} (h : w.ownsRow base e k v n cs) (hw : ∀ g, v.ownBlock = some g → w'.heap[g]? = w.heap[g]?) : w'.ownsRow base e k v n cs := by
  refine ⟨h.1, ?_⟩
  rcases h.2 with hn | ⟨g, cap, cur, rfl, hg, hgg, rest⟩
  · exact .inl hn
  · exact .inr ⟨g, cap, cur, rfl, hg, by rw [hw g rfl]; exact hgg, rest⟩

theorem own_sl {w : World} {base : Nat} {e : TypeId} {size n : Nat} {v : Value} {cs : List Value} (h : w.ownsRow base e size v n cs) : ∃ p m c, v = .slice p m c := by
  rcases h.2 with ⟨rfl, _⟩ | ⟨g, cap, cur, rfl, _⟩
  · exact ⟨_, _, _, rfl⟩
  · exact ⟨_, _, _, rfl⟩

/-- A list under construction beside another one, whose own block is o: its elements are read off blocks from E on, none of them the own block of either. -/
structure Lst2 {α : Type} (R : World → List Value → α → Prop) (E : Nat) (o : Nat → Prop) (e : TypeId) (k : Nat) (v : Value) (w : World) (l : List α) (css : List (List Value)) : Prop where
  own : w.ownsRow E e k v l.length css.flatten
  len : css.length = l.length
  siz : ∀ c ∈ css, c.length = k
  apart : ∀ g, v.ownBlock = some g → ¬ o g
  elt : ∀ (i : Nat) (c : List Value) (x : α), css[i]? = some c → l[i]? = some x → On (fun b => E ≤ b ∧ b < w.heap.size ∧ v.ownBlock ≠ some b ∧ ¬ o b) (fun w => R w c x) w

/-- The own block of a list is the same as before, or new. -/
def Grew (w : World) (o o' : Option Nat) : Prop := o' = o ∨ ∃ g, o' = some g ∧ w.heap.size ≤ g
theorem Grew.not {w : World} {o o' : Option Nat} (h : Grew w o o') {b : Nat} (hb : b < w.heap.size) (hn : o ≠ some b) : o' ≠ some b := by
  rcases h with h | ⟨g, h, hg⟩
  · rw [h]; exact hn
  · rw [h]; intro e; have := Option.some.inj e; omega
theorem Grew.mono {w w' : World} {o o' : Option Nat} (h : Grew w' o o') (hs : w.heap.size ≤ w'.heap.size) : Grew w o o' := by
  rcases h with h | ⟨g, h, hg⟩
  · exact .inl h
  · exact .inr ⟨g, h, Nat.le_trans hs hg⟩

section
variable {α : Type} {R : World → List Value → α → Prop} {E k : Nat} {o o' : Nat → Prop} {e : TypeId} {w w' : World} {v v' : Value} {l : List α} {css : List (List Value)}
theorem Lst2.nil (w : World) : Lst2 R E o e k (.slice none 0 0) w ([] : List α) [] :=
  ⟨World.ownsRow_nil _ _ _ _, rfl, fun c hc => by simp at hc, fun g hg => by simp [Value.ownBlock] at hg, fun i c x hi => by simp at hi⟩
theorem Lst2.lst (h : Lst2 R E o e k v w l css) : Lst R E E e k v w l css :=
  ⟨h.own, h.len, h.siz, fun i c x hi hx => On.mono (h.elt i c x hi hx) fun _ hb => ⟨hb.1, hb.2.1, hb.2.2.1⟩⟩
theorem Lst2.lt (h : Lst2 R E o e k v w l css) : ∀ g, v.ownBlock = some g → E ≤ g ∧ g < w.heap.size := fun g hg => h.own.lt g hg
/-- Blocks from E on stay as they were, but that of the other list. -/
theorem Lst2.step (h : Lst2 R E o e k v w l css) (hs : w.heap.size ≤ w'.heap.size) (hw : ∀ b, E ≤ b → b < w.heap.size → ¬ o b → w'.heap[b]? = w.heap[b]?) (ho : ∀ b, b < w.heap.size → ¬ o b → ¬ o' b) : Lst2 R E o' e k v w' l css := by
  refine ⟨ownsRow_block h.own fun g hg => hw g (h.lt g hg).1 (h.lt g hg).2 (h.apart g hg), h.len, h.siz, fun g hg => ho g (h.lt g hg).2 (h.apart g hg), fun i c x hi hx => ?_⟩
  exact On.mono (On.step (h.elt i c x hi hx) fun b hb => hw b hb.1 hb.2.1 hb.2.2.2) fun b hb => ⟨hb.1, Nat.lt_of_lt_of_le hb.2.1 hs, hb.2.2.1, ho b hb.2.1 hb.2.2.2⟩
theorem Lst2.keep (h : Lst2 R E o e k v w l css) (hb : Below w.heap.size w w') : Lst2 R E o e k v w' l css :=
  h.step hb.size (fun b _ hlt _ => hb.block b hlt) (fun _ _ g => g)
/-- A store below E. -/
theorem Lst2.put (h : Lst2 R E o e k v w l css) {b j : Nat} (hb : b < E) (u : Value) : Lst2 R E o e k v (w.setCell ⟨b, j, none⟩ u) l css :=
  h.step (by simp) (fun b' hE _ _ => Below.heap_setCell _ _ _ _ (by simp only; omega)) (fun _ _ g => g)
theorem Lst2.push (h : Lst2 R E o e k v w l css) {c : List Value} {x : α} (hc : c.length = k) (hx : On (fun b => E ≤ b ∧ b < w.heap.size ∧ v.ownBlock ≠ some b ∧ ¬ o b) (fun w => R w c x) w)
    (hown : w'.ownsRow E e k v' (l.length + 1) (css.flatten ++ c)) (hg : w.grownBy w' v.ownBlock) (hv : Grew w v.ownBlock v'.ownBlock) (ho : ∀ b, o b → b < w.heap.size) :
    Lst2 R E o e k v' w' (l ++ [x]) (css ++ [c]) := by
  have hF : ∀ {S : World → Prop}, On (fun b => E ≤ b ∧ b < w.heap.size ∧ v.ownBlock ≠ some b ∧ ¬ o b) S w → On (fun b => E ≤ b ∧ b < w'.heap.size ∧ v'.ownBlock ≠ some b ∧ ¬ o b) S w' := fun hS =>
    On.mono (On.step hS fun b hb => hg.block b hb.2.1 (fun e => hb.2.2.1 e.symm)) fun b hb => ⟨hb.1, Nat.lt_of_lt_of_le hb.2.1 hg.size, hv.not hb.2.1 hb.2.2.1, hb.2.2.2⟩
  refine ⟨?_, by simp [h.len], fun c' hc' => ?_, fun g hg' e => ?_, fun i c' x' hi hx' => ?_⟩
  · rw [List.length_append, List.length_singleton]
    simpa using hown
  · rcases List.mem_append.1 hc' with hm | hm
    · exact h.siz c' hm
    · rw [List.mem_singleton.1 hm]; exact hc
  · rcases hv with hv | ⟨g2, hv, hg2⟩
    · exact h.apart g (hv.symm.trans hg') e
    · rw [hv] at hg'
      have := Option.some.inj hg'
      have := ho g e
      omega
  · by_cases hlt : i < css.length
    · rw [List.getElem?_append_left hlt] at hi
      rw [List.getElem?_append_left (by have := h.len; omega)] at hx'
      exact hF (h.elt i c' x' hi hx')
    · have hi2 := (List.getElem?_eq_some_iff.1 hi).1
      rw [List.length_append, List.length_singleton] at hi2
      have hii : i = css.length := by omega
      subst hii
      rw [List.getElem?_append_right (Nat.le_refl _), Nat.sub_self] at hi
      rw [h.len, List.getElem?_append_right (Nat.le_refl _), Nat.sub_self] at hx'
      have e1 : c = c' := by simpa using hi
      have e2 : x = x' := by simpa using hx'
      subst e1; subst e2
      exact hF hx
theorem Lst2.slice (h : Lst2 R E o e k v w l css) : SliceOf R k w v l := h.lst.slice
/-- An element newer than the two lists. -/
theorem Lst2.fresh {w1 : World} {S : World → Prop} (h : Lst2 R E o e k v w l css) (hm : Made w.heap.size S w1) (hE : E ≤ w.heap.size) (ho : ∀ b, o b → b < w.heap.size) : On (fun b => E ≤ b ∧ b < w1.heap.size ∧ v.ownBlock ≠ some b ∧ ¬ o b) S w1 :=
  On.mono hm fun b hb => ⟨Nat.le_trans hE hb.1, hb.2, fun e => by have := (h.lt b e).2; omega, fun e => by have := ho b e; omega⟩
end

section
variable {P : Program} {t e : TypeId} {z : Value} {k bytes : Nat} {α : Type} {R : World → List Value → α → Prop} {E : Nat} {o2 : Nat → Prop} {v : Value} {l : List α} {css : List (List Value)}
/-- append(s, x), x one element just laid in a new block. -/
theorem append_lst2 (E0 : ElemRow P t e z k bytes)
    {ops : Array Oper} {rest : List Oper} {o : Oper} {a : Act} {Q : Exit → Act → World → Prop} (hgd : o.guard = none) {s x : Operand}
    (ho : o.op = .call { callee := .builtin .append, args := #[s, x], argTypes := #[t, t] })
    {w : World} {cs : Array Value} {e' : TypeId} {fz : Nat × Nat} (hL : Lst2 R E o2 e k v w l css)
    (hs : a.eval s = v) (hx : a.eval x = .slice (some ⟨w.heap.size, 0, none⟩) 1 1)
    (hl : cs.size = k) (h1 : ∀ u ∈ cs.toList, u.oneCell' = true) (hn : (l.length + 1) * bytes ≤ 140737488355328) (hn' : l.length + 1 ≤ 9223372036854775807) (hE : E ≤ w.heap.size) (ho2 : ∀ b, o2 b → b < w.heap.size)
    {y : α} (hy : On (fun b => E ≤ b ∧ b < w.heap.size ∧ v.ownBlock ≠ some b ∧ ¬ o2 b) (fun w => R w cs.toList y) w)
    (h : ∀ v' w', Lst2 R E o2 e k v' w' (l ++ [y]) (css ++ [cs.toList]) → Below E w w' → w.grownBy w' v.ownBlock → Grew w v.ownBlock v'.ownBlock → wpList P ops Q rest (a.put o.dst v') w') :
    wpList P ops Q (o :: rest) a (w.alloc (.cells cs e' fz)) := by
  refine append_fresh E0 hgd ho hL.own hs hx hl h1 hn hn' hE fun v' w' h2 h3 h4 h5 h6 => ?_
  exact h v' w' (hL.push (by rw [Array.length_toList]; exact hl) hy h2 h3 h6 ho2) h4 h3 h6
/-- The same at a step of a region that draws its order. -/
theorem step_append_lst2 (E0 : ElemRow P t e z k bytes)
    {ops : Array Oper} {o : Oper} {a : Act} {K : Act → World → Prop} {Q : Exit → Act → World → Prop} {X0 : Prop} (hgd : o.guard = none) {s x : Operand}
    (ho : o.op = .call { callee := .builtin .append, args := #[s, x], argTypes := #[t, t] })
    {w : World} {ad : Addr} {cap : Nat} {c : List Value} (hL : Lst2 R E o2 e k v w l css)
    (hs : a.eval s = v) (hx : a.eval x = .slice (some ad) 1 cap) (hc : ∀ j u, c[j]? = some u → w.cell? (ad.add j) = some u)
    (hl : c.length = k) (h1 : ∀ u ∈ c, u.oneCell' = true) (hn : (l.length + 1) * bytes ≤ 140737488355328) (hn' : l.length + 1 ≤ 9223372036854775807) (hE : E ≤ w.heap.size) (ho2 : ∀ b, o2 b → b < w.heap.size)
    {y : α} (hy : On (fun b => E ≤ b ∧ b < w.heap.size ∧ v.ownBlock ≠ some b ∧ ¬ o2 b) (fun w => R w c y) w)
    (h : ∀ v' w', Lst2 R E o2 e k v' w' (l ++ [y]) (css ++ [c]) → Below E w w' → w.grownBy w' v.ownBlock → Grew w v.ownBlock v'.ownBlock → K (a.put o.dst v') w') :
    if Region.wanted o (yielded ops a.tmps) = true then Oper.wp P o a w K Q else X0 := by
  obtain ⟨i, hi, hz0, hz1, hz2⟩ := info_parts E0.hi
  refine step_append_lies w hgd s x t ho E e i z k bytes E0.ht hi hz0 hz1 hz2 E0.hzs E0.hsz v l.length css.flatten hs hL.own ad 1 cap c hx (by rw [hl, Nat.one_mul]) hc h1 (by omega) (by unfold maxLen; omega) hn hE _ rfl fun g cp w' h2 h3 h4 h5 => ?_
  have hv : Grew w v.ownBlock (Value.slice (some ⟨g, 0, none⟩) (l.length + 1) cp).ownBlock := by
    rcases h4 with h4 | h4
    · exact .inl (by rw [h4]; rfl)
    · exact .inr ⟨g, rfl, by omega⟩
  exact h _ w' (hL.push hl hy h2 h3 hv ho2) ((Below.refl E w).grown h3 hE fun g' hg' => (hL.lt g' hg').1) h3 hv
end

end Go.Proofs.Kit

/- The state of a count in memory; (*count).exclude: the loop. -/
namespace Go.Proofs.Nums

theorem ltW_swo (gs : List Grp) (rem : List Bool) : Swo (ltW gs rem) := by
  unfold ltW
  refine ⟨fun a => by simp, fun a b h => ?_, fun a b c h1 h2 => ?_⟩
  · rw [decide_eq_true_iff] at h; rw [decide_eq_false_iff_not]; omega
  · rw [decide_eq_false_iff_not] at h1 h2 ⊢; omega
theorem low_step {gs : List Grp} {rem : List Bool} {l : List Int} {k : Nat} {y : Int} (h : k < l.length) (hy : l.getD k 0 = y) : extA (ltW gs rem) (l.take (k + 1)) = exStep (ltW gs rem) (extA (ltW gs rem) (l.take k)) y := by
  rw [take_snoc_i h, hy, extA_snoc (ltW_swo gs rem)]

end Go.Proofs.Nums
namespace Go.Proofs.Ytbnhgmikegdppaa
open Go.RowKit Go.Proofs.Kit Go.Proofs.Nums

theorem blk_put {b : Nat} {cs : Array Value} {w : World} (h : Blk b cs w) {o : Nat} (ho : o < cs.size) (v : Value) : Blk b (cs.set o v ho) (w.setCell ⟨b, o, none⟩ v) := by
  refine ⟨by simpa [World.size_setCell] using h.1, fun p => ?_, fun p => ?_⟩
  · by_cases hp : o = p
    · subst hp
      rw [cell_same (u := cs[o]) (by rw [h.2.1]; exact Array.getElem?_eq_getElem ho)]
      simp
    · rw [cell_other hp, h.2.1, Array.getElem?_set_ne ho hp]
  · rw [World.frozen?_setCell]; exact h.2.2 p
theorem blk_other {b b' : Nat} {cs : Array Value} {w : World} (h : Blk b cs w) (hne : b ≠ b') (o : Nat) (v : Value) : Blk b cs (w.setCell ⟨b', o, none⟩ v) :=
  h.off (Below.heap_setCell w ⟨b', o, none⟩ v b hne) (by rw [World.size_setCell]; exact Nat.le_refl _)
theorem OwnBool.other {w : World} {base g n : Nat} {l : List Bool} (h : OwnBool w base g n l) {b : Nat} (hne : g ≠ b) (o : Nat) (v : Value) : OwnBool (w.setCell ⟨b, o, none⟩ v) base g n l :=
  ⟨h.1, ownsRow_block h.2 fun g' hg' => by
    have e : g = g' := by simpa [Value.ownBlock] using hg'
    subst e
    exact Below.heap_setCell w ⟨b, o, none⟩ v g hne⟩

/-- A contest in cells. -/
structure ConP where
  nm : Value
  p : Option Addr
  n : Nat
  c : Nat
  cm : Int
  seats : Int
  ranks : Int
  digits : Int
  ties : Int
  over : Int
  skip : Int
def cntC (C : ConP) (vg vl vr ve : Value) : Array Value := cntA C.nm (.slice C.p C.n C.c) (.int .i64 C.cm) (.int .i64 C.seats) (.int .i64 C.ranks) (.int .i64 C.digits) C.ties (.int .i64 C.over) (.int .i64 C.skip) vg vl vr ve
/-- A count: block B holds its cells, block g the flags of those that remain. -/
structure CntAt (w : World) (B g : Nat) (C : ConP) (vg vl ve : Value) (rem : List Bool) : Prop where
  blk : Blk B (cntC C vg vl (.slice (some ⟨g, 0, none⟩) C.n C.n) ve) w
  row : OwnBool w g g C.n rem
  ne : B ≠ g
section
variable {w w' : World} {B g : Nat} {C : ConP} {vg vl ve : Value} {rem : List Bool}
theorem CntAt.keep (h : CntAt w B g C vg vl ve rem) (hb : Below w.heap.size w w') : CntAt w' B g C vg vl ve rem := ⟨h.blk.keep hb, h.row.keep hb, h.ne⟩
theorem CntAt.flag (h : CntAt w B g C vg vl ve rem) (j : Nat) (x : Bool) : CntAt (w.setCell ⟨g, j, none⟩ (.bool x)) B g C vg vl ve (rem.set j x) :=
  ⟨blk_other h.blk h.ne j _, (h.row.put j x).1, h.ne⟩
theorem CntAt.ear (h : CntAt w B g C vg vl ve rem) (ve' : Value) : CntAt (w.setCell ⟨B, 12, none⟩ ve') B g C vg vl ve' rem :=
  ⟨blk_put h.blk (o := 12) (by simp [cntC, cntA]) ve', h.row.other (Ne.symm h.ne) _ _, h.ne⟩
/-- Blocks other than B and g may change. -/
theorem CntAt.off (h : CntAt w B g C vg vl ve rem) (hs : w.heap.size ≤ w'.heap.size) (h1 : w'.heap[B]? = w.heap[B]?) (h2 : w'.heap[g]? = w.heap[g]?) : CntAt w' B g C vg vl ve rem :=
  ⟨h.blk.off h1 hs, ⟨h.row.1, ownsRow_block h.row.2 fun g' hg' => by
    have e : g = g' := by simpa [Value.ownBlock] using hg'
    subst e
    exact h2⟩, h.ne⟩
theorem CntAt.flags (h : CntAt w B g C vg vl ve rem) : BoolsAt w (.slice (some ⟨g, 0, none⟩) C.n C.n) rem := h.row.read
theorem CntAt.len (h : CntAt w B g C vg vl ve rem) : rem.length = C.n := h.row.1
theorem CntAt.lt (h : CntAt w B g C vg vl ve rem) : B < w.heap.size ∧ g < w.heap.size := ⟨h.blk.1, (h.row.2.lt g rfl).2⟩
theorem CntAt.cells (h : CntAt w B g C vg vl ve rem) : w.cell? ⟨B, 6, none⟩ = some (.int .i64 C.ties) ∧ w.cell? ⟨B, 10, none⟩ = some vl ∧ w.cell? ⟨B, 11, none⟩ = some (.slice (some ⟨g, 0, none⟩) C.n C.n) ∧ w.cell? ⟨B, 12, none⟩ = some ve ∧ w.frozen? ⟨B, 12, none⟩ = false :=
  ⟨h.blk.2.1 6, h.blk.2.1 10, h.blk.2.1 11, h.blk.2.1 12, h.blk.2.2 12⟩
end
theorem left_n {w : World} {B g : Nat} {C : ConP} {vg vl ve : Value} {rem : List Bool} (h : CntAt w B g C vg vl ve rem) (h7 : C.n ≤ 7) :
    Calls Try.prog 49 #[.pointer (some ⟨B, 0, none⟩)] w fun e w' => ∃ v', e = .returned v' ∧ IntsAt w' v' (aliveS rem) ∧ Fresh w.heap.size v' ∧ Below w.heap.size w w' :=
  left_c h.blk h.flags (by rw [h.len]; exact h7)

end Go.Proofs.Ytbnhgmikegdppaa

/- (*count).exclude. -/
namespace Go.Proofs.Ytbnhgmikegdppaa
open Go.RowKit Go.Proofs.Kit Go.Proofs.Nums

theorem getD_head {l : List Int} {x : Int} (h : l.headD 0 = x) : l.getD 0 0 = x := by
  cases l <;> simpa using h
/-- What exclude leaves: wc the world behind the choice, wa the one with the votes, w6 the one with the longer list. -/
theorem excl_done {w wc wa w6 : World} {B g E base xn : Nat} {o : Nat → Prop} {C : ConP} {vg vl ve v6 vt : Value} {rem : List Bool} {L L' : List (List Q)} {t : List Int} {css css' : List (List Value)}
    (hbC : Below w.heap.size w wc) (hK : CntAt wc B g C vg vl ve rem) (hE : Lst2 rowR E o 48 1 ve w L css) (hB0 : base ≤ B) (hg0 : base ≤ g) (hBE : B < E) (hgE : g < E) (hEw : E ≤ w.heap.size)
    (hWa : Below wc.heap.size (wc.setCell ⟨g, xn, none⟩ (.bool false)) wa) (hw6 : Below E wa w6) (hg6 : wa.grownBy w6 ve.ownBlock) (hG : Grew wa ve.ownBlock v6.ownBlock) (hL6 : Lst2 rowR E o 48 1 v6 w6 L' css')
    (hT : Made w.heap.size (fun w => IntsAt w vt t) wc) :
    On (fun b => w.heap.size ≤ b ∧ b < (w6.setCell ⟨B, 12, none⟩ v6).heap.size ∧ v6.ownBlock ≠ some b) (fun w => IntsAt w vt t) (w6.setCell ⟨B, 12, none⟩ v6) ∧ CntAt (w6.setCell ⟨B, 12, none⟩ v6) B g C vg vl v6 (rem.set xn false) ∧
      Lst2 rowR E o 48 1 v6 (w6.setCell ⟨B, 12, none⟩ v6) L' css' ∧ Grew w ve.ownBlock v6.ownBlock ∧
      (w.heap.size ≤ (w6.setCell ⟨B, 12, none⟩ v6).heap.size ∧ ∀ b, b < w.heap.size → b ≠ B → b ≠ g → ve.ownBlock ≠ some b → (w6.setCell ⟨B, 12, none⟩ v6).heap[b]? = w.heap[b]?) ∧ Below base w (w6.setCell ⟨B, 12, none⟩ v6) := by
  have s1 := hbC.size
  have s2 := hWa.size
  have s3 := hg6.size
  rw [World.size_setCell] at s2
  have hEc : E ≤ wc.heap.size := Nat.le_trans hEw s1
  have fr : ∀ b, b < wc.heap.size → b ≠ B → b ≠ g → ve.ownBlock ≠ some b → (w6.setCell ⟨B, 12, none⟩ v6).heap[b]? = wc.heap[b]? := fun b hb hB hg hv => by
    rw [Below.heap_setCell _ _ _ _ (by exact hB), hg6.block b (by omega) (fun e => hv e.symm), hWa.block b hb, Below.heap_setCell _ _ _ _ (by exact hg)]
  refine ⟨?_, ?_, hL6.put hBE v6, hG.mono (by omega), ⟨by rw [World.size_setCell]; omega, fun b hb hB hg hv => (fr b (by omega) hB hg hv).trans (hbC.block b hb)⟩, ?_⟩
  · refine On.mono (On.step hT fun b hb => fr b hb.2 (by omega) (by omega) (fun e => by have := (hE.lt b e).2; omega)) fun b hb => ⟨hb.1, by rw [World.size_setCell]; omega, hG.not (by omega) (fun e => by have := (hE.lt b e).2; omega)⟩
  · have k1 := hK.flag xn false
    have k2 : CntAt w6 B g C vg vl ve (rem.set xn false) := k1.off (by rw [World.size_setCell]; omega) (by rw [hw6.block B hBE, hWa.block B (by omega)]) (by rw [hw6.block g hgE, hWa.block g (by omega)])
    exact k2.ear v6
  · exact ((((hbC.mono (by omega)).setCell (p := ⟨g, xn, none⟩) hg0 _).trans (hWa.mono (by omega))).trans (hw6.mono (by omega))).setCell (p := ⟨B, 12, none⟩) hB0 _

theorem excl_arm {w wc w5 : World} {B g E xn : Nat} {o : Nat → Prop} {C : ConP} {vg vl ve v5 : Value} {rem : List Bool} {L : List (List Q)} {q : List Q} {css cs5 : List (List Value)}
    (hbC : Below w.heap.size w wc) (hK : CntAt wc B g C vg vl ve rem) (hE : Lst2 rowR E o 48 1 ve w L css) (hBE : B < E) (hgE : g < E) (hEw : E ≤ w.heap.size) (ho : ∀ b, o b → b < w.heap.size)
    (hb5 : Below (wc.setCell ⟨g, xn, none⟩ (.bool false)).drew.heap.size (wc.setCell ⟨g, xn, none⟩ (.bool false)).drew w5) (hR5 : RLst (wc.setCell ⟨g, xn, none⟩ (.bool false)).drew.heap.size v5 w5 q cs5) :
    Below wc.heap.size (wc.setCell ⟨g, xn, none⟩ (.bool false)) w5 ∧ Hid (∀ ob : Obj, Lst2 rowR E o 48 1 ve (w5.alloc ob) L css) ∧
    Hid (∀ ob : Obj, On (fun b => E ≤ b ∧ b < (w5.alloc ob).heap.size ∧ ve.ownBlock ≠ some b ∧ ¬ o b) (fun w => rowR w [v5] q) (w5.alloc ob)) ∧
    Hid (∀ ob : Obj, E ≤ (w5.alloc ob).heap.size) ∧ Hid (∀ (ob : Obj) (b : Nat), o b → b < (w5.alloc ob).heap.size) ∧
    Hid (∀ (ob : Obj) (w6 : World), Below E (w5.alloc ob) w6 → w6.cell? ⟨B, 12, none⟩ = some ve) ∧ Hid (∀ (ob : Obj) (w6 : World), Below E (w5.alloc ob) w6 → w6.frozen? ⟨B, 12, none⟩ = false) ∧
    Hid (∀ u ∈ [v5], u.oneCell' = true) := by
  have hs1 := hbC.size
  have hsW : (wc.setCell ⟨g, xn, none⟩ (.bool false)).drew.heap.size = wc.heap.size := by
    show (wc.setCell ⟨g, xn, none⟩ (.bool false)).heap.size = wc.heap.size
    rw [World.size_setCell]
  have hs5 := hb5.size
  rw [hsW] at hs5 hb5 hR5
  have hd : Below wc.heap.size (wc.setCell ⟨g, xn, none⟩ (.bool false)) w5 := (Below.refl _ (wc.setCell ⟨g, xn, none⟩ (.bool false))).drew.trans hb5
  have hda : ∀ ob : Obj, Below wc.heap.size (wc.setCell ⟨g, xn, none⟩ (.bool false)) (w5.alloc ob) := fun ob => hd.alloc hs5 ob
  have hLW := (hE.keep hbC).put (j := xn) hgE (.bool false)
  have hKW := hK.flag xn false
  have hL5 : ∀ ob : Obj, Lst2 rowR E o 48 1 ve (w5.alloc ob) L css := fun ob => hLW.keep (by rw [World.size_setCell]; exact hda ob)
  have ho' : ∀ b, o b → b < wc.heap.size := fun b e => by have := ho b e; omega
  have hm : Made wc.heap.size (fun w => rowR w [v5] q) w5 := (hR5.made (Nat.le_refl _) (Nat.le_refl _)).imp fun w' g => ⟨_, rfl, g⟩
  refine ⟨hd, Lib.hid hL5, Lib.hid fun ob => ?_, Lib.hid fun ob => by simp; omega, Lib.hid fun ob b e => by have := ho' b e; simp; omega, Lib.hid fun ob w6 h6 => ?_, Lib.hid fun ob w6 h6 => ?_, Lib.hid fun u hu => ?_⟩
  · refine Lst2.fresh (w1 := w5.alloc ob) hLW ?_ (by rw [World.size_setCell]; omega) (fun b e => by rw [World.size_setCell]; exact ho' b e)
    rw [World.size_setCell]
    exact hm.keep ((Below.refl _ _).alloc (Nat.le_refl _) _)
  · have k := (hKW.keep (w' := w5.alloc ob) (by rw [World.size_setCell]; exact hda ob)).off h6.size (h6.block B hBE) (h6.block g hgE)
    exact k.cells.2.2.2.1
  · have k := (hKW.keep (w' := w5.alloc ob) (by rw [World.size_setCell]; exact hda ob)).off h6.size (h6.block B hBE) (h6.block g hgE)
    exact k.cells.2.2.2.2
  · rw [List.mem_singleton.1 hu]
    obtain ⟨p, c, e, _⟩ := SliceOf.shape hR5.slice
    rw [e]; rfl

set_option maxRecDepth 100000 in
set_option maxHeartbeats 16000000 in
theorem exclude_c {w : World} {B g E base : Nat} {o : Nat → Prop} {C : ConP} {vg vl ve vv : Value} {gs : List Grp} {rem : List Bool} {ear : List (List Int)} {lots : List Int} {css : List (List Value)}
    (hC : CntAt w B g C vg vl ve rem) (hE : Lst2 rowR E o 48 1 ve w (ear.map wholesS) css) (hB0 : base ≤ B) (hg0 : base ≤ g) (hBE : B < E) (hgE : g < E) (hEw : E ≤ w.heap.size) (ho : ∀ b, o b → b < w.heap.size)
    (hl : IntsAt w vl lots) (hv : IntsAt w vv (votesS gs rem)) (hvf : ∀ b, vv.ownBlock = some b → b ≠ g) (hvr : ∀ x ∈ votesS gs rem, 0 ≤ x ∧ x ≤ 1000000)
    (h7 : C.n ≤ 7) (hear : ear.length ≤ 7) (hall : aliveS rem ≠ []) (hb : Brk C.n (brkS C.ties lots)) :
    Calls Try.prog 52 #[.pointer (some ⟨B, 0, none⟩), vv] w fun e w' => ∃ vt ve' css', e = .returned (.tuple #[.int .i64 (exclS (brkS C.ties lots) gs rem ear), vt]) ∧
      On (fun b => w.heap.size ≤ b ∧ b < w'.heap.size ∧ ve'.ownBlock ≠ some b) (fun w => IntsAt w vt (tiedW gs rem)) w' ∧ CntAt w' B g C vg vl ve' (rem.set (exclS (brkS C.ties lots) gs rem ear).toNat false) ∧
      Lst2 rowR E o 48 1 ve' w' (ear.map wholesS ++ [wholesS (votesS gs rem)]) css' ∧ Grew w ve.ownBlock ve'.ownBlock ∧
      (w.heap.size ≤ w'.heap.size ∧ ∀ b, b < w.heap.size → b ≠ B → b ≠ g → ve.ownBlock ≠ some b → w'.heap[b]? = w.heap[b]?) ∧ Below base w w' := by
  have hrl := hC.len
  have hxl := excl_low (gs := gs) (ear := ear) (by rw [hrl]; exact hb) hall
  have hxr := remB_lt (mem_alive.1 (low_sub hxl))
  rw [hrl] at hxr
  have LF := Lib.hid (left_n hC h7)
  have HC := Lib.hid hC
  have HE := Lib.hid hE
  have HV := Lib.hid hv
  have HL := Lib.hid hl
  have HVF := Lib.hid hvf
  have HVR := Lib.hid hvr
  have HO := Lib.hid ho
  have HN1 : Hid (((ear.map wholesS).length + 1) * 24 ≤ 140737488355328) := Lib.hid (by rw [List.length_map]; omega)
  have HN2 : Hid ((ear.map wholesS).length + 1 ≤ 9223372036854775807) := Lib.hid (by rw [List.length_map]; omega)
  have hsw : 0 < w.heap.size := by omega
  have hlow : lowS gs rem = extA (ltW gs rem) (aliveS rem) := rfl
  have HLN := Lib.hid (low_ne (gs := gs) hall)
  have hvl : (votesS gs rem).length = C.n := by rw [votes_len, hrl]
  have HVL := Lib.hid hvl
  have HRL := Lib.hid hrl
  have HAR : Hid (∀ x ∈ aliveS rem, 0 ≤ x ∧ x < (C.n : Int)) := Lib.hid (fun x hx => by rw [← hrl]; exact remB_lt (mem_alive.1 hx))
  have HVG : Hid (∀ c : Nat, c < C.n → (votesS gs rem).getD c 0 = wt (remB rem) gs c) := Lib.hid (fun c hc => votes_get (c := (c : Int)) (by omega) (by rw [hrl]; omega))
  have hal := alive_le rem
  rw [hrl] at hal
  obtain ⟨pv, cv, rfl⟩ := hv.shape
  have HXS : Hid (exclS (brkS C.ties lots) gs rem ear = if 1 < (lowS gs rem).length then (breakS C.ties (ear.map wholesS) (lowS gs rem) lots true).1 else (lowS gs rem).headD 0) := Lib.hid rfl
  have HTW : Hid (tiedW gs rem = if 1 < (lowS gs rem).length then lowS gs rem else []) := Lib.hid rfl
  have TB := Lib.hid (fun ve vt vl tied w => @tbreak_c ve vt vl (ear.map wholesS) tied lots w)
  obtain ⟨x, hx⟩ : ∃ x, exclS (brkS C.ties lots) gs rem ear = x := ⟨_, rfl⟩
  rw [hx] at hxl hxr HXS
  rw [hx]
  obtain ⟨xn, hxn⟩ : ∃ j : Nat, x = j := ⟨x.toNat, by omega⟩
  subst hxn
  rw [Int.toNat_natCast]
  rw [hvl] at HV
  have HC2 : Hid (∀ wq, Below w.heap.size w wq → CntAt wq B g C vg vl ve rem) := Lib.hid (fun wq h => hC.keep h)
  obtain ⟨n, hn⟩ : ∃ n, C.n = n := ⟨_, rfl⟩
  have HNn := Lib.hid hn
  have HV := Lib.hid (show IntsAt w (.slice pv n cv) (votesS gs rem) by have := HV.out; rw [hn] at this; exact this)
  rw [hn] at HAR HVG hxr h7 hal
  rw [hvl, hn]
  rw [hvl, hn] at HVF
  have HVL : Hid ((votesS gs rem).length = n) := Lib.hid (by rw [← hn]; exact hvl)
  have cells : ∀ wq, Below w.heap.size w wq → wq.cell? ⟨B, 6, none⟩ = some (.int .i64 C.ties) ∧ wq.cell? ⟨B, 10, none⟩ = some vl ∧ wq.cell? ⟨B, 11, none⟩ = some (.slice (some ⟨g, 0, none⟩) n n) ∧ wq.cell? ⟨B, 12, none⟩ = some ve ∧ wq.frozen? ⟨B, 12, none⟩ = false := fun wq h => by rw [← hn]; exact (hC.keep h).cells
  have CE := Lib.hid cells
  obtain ⟨ties, htie⟩ : ∃ t, C.ties = t := ⟨_, rfl⟩
  rw [htie] at CE HXS
  have hBw := hC.lt
  clear hC hE hl hv hvf hvr hb ho hvl hrl cells hx hn htie hear
  go_enter Try.func52, Try.ntmps52
  go_wp2_with (go_at_call 49; ((with_reducible refine LF.out.mono ?_); rintro e w1 ⟨v1, rfl, hi1, hf1, hb1⟩; obtain ⟨p1, k1, rfl⟩ := hi1.shape))
  obtain ⟨len, hlen⟩ : ∃ n, (aliveS rem).length = n := ⟨_, rfl⟩
  have HN := Lib.hid hlen
  have HI1 := Lib.hid hi1
  rw [hlen] at HI1 hal ⊢
  clear hi1 hlen
  go_loopw [5, 11] (fun ov iv wr => ∃ k m : Nat, ∃ q : List Int, k ≤ len ∧ m ≤ k ∧ iv = .int .i64 k ∧ wr.ownsRow w1.heap.size 3 1 ov m (q.map (Value.int .i64)) ∧ Below w1.heap.size w1 wr ∧ Hid (q = extA (ltW gs rem) ((aliveS rem).take k))) (fun _ iv _ => len - (intOf iv).toNat)
  case atStart => exact ⟨0, 0, [], by omega, by omega, rfl, World.ownsRow_nil _ _ _ _, Below.refl _ _, Lib.hid rfl⟩
  case round =>
    obtain ⟨k, m, q, hk, hm, rfl, hown, hbel, hP⟩ := hrel
    have hbw := bel2' hb1 hbel
    have hol : q.length = m := by
      have h1 := hown.1
      rw [List.length_map] at h1
      omega
    have HI := Lib.hid (ints_owned hown)
    obtain ⟨p5, c5, rfl, hmc, hcm⟩ := own_shape hown
    by_cases hlt : k < len
    · have hltz : (k : Int) < (len : Int) := by omega
      obtain ⟨bb, off, hp0, hc1, hc2, hcell⟩ := (HI1.out.keep hbel).cellAt k (by rw [HN.out]; exact hlt)
      subst hp0
      have hmem := HAR.out ((aliveS rem).getD k 0) (mem_getD (by rw [HN.out]; exact hlt) rfl)
      obtain ⟨y, hy⟩ : ∃ y, (aliveS rem).getD k 0 = y := ⟨_, rfl⟩
      rw [hy] at hcell hmem
      obtain ⟨cn, hcn⟩ : ∃ j : Nat, y = j := ⟨y.toNat, by omega⟩
      subst hcn
      have hcl : cn < n := by omega
      have hclz : (cn : Int) < (n : Int) := by omega
      have HS : Hid (extA (ltW gs rem) ((aliveS rem).take (k + 1)) = exStep (ltW gs rem) q cn) := Lib.hid (by rw [low_step (by rw [HN.out]; exact hlt) hy, hP.out])
      obtain ⟨bv, fv, hpv, _, _, hcv⟩ := (HV.out.keep hbw).cellAt cn (by rw [HVL.out]; exact hcl)
      subst hpv
      rw [HVG.out cn hcl] at hcv
      obtain ⟨xc, hxc⟩ : ∃ x, wt (remB rem) gs cn = x := ⟨_, rfl⟩
      rw [hxc] at hcv
      have own1 : ∀ wq : World, w1.heap.size ≤ wq.heap.size → (wq.alloc (.cells #[.int .i64 (cn : Int)] 3)).ownsRow w1.heap.size 3 1 (.slice (some ⟨wq.heap.size, 0, none⟩) 1 1) 1 ([(cn : Int)].map (Value.int .i64)) := fun wq h =>
        World.ownsRow_lit wq #[.int .i64 (cn : Int)] 1 h (by decide) rfl
      clear hy hmem
      cases q with
      | nil =>
        obtain rfl : m = 0 := by rw [← hol]; rfl
        have HX : Hid ([(cn : Int)] = extA (ltW gs rem) ((aliveS rem).take (k + 1))) := Lib.hid (by rw [HS.out]; rfl)
        go_wp2_with fail
        go_quiet (fail)
        all_goals
          go_wp2_with fail
          go_roundw
          case rel => exact ⟨k + 1, 1, [(cn : Int)], by omega, by omega, by go_num, own1 _ hbel.size, (below_drewN hbel _).alloc hbel.size _, HX⟩
          case measure => simp [intOf] <;> omega
      | cons b t =>
        have hm0 : 0 < m := by rw [← hol]; simp
        have hm0z : (0 : Int) < (m : Int) := by omega
        have hme : ((m : Int) == 0) = false := by rw [beq_eq_false_iff_ne]; omega
        have hbm : b ∈ aliveS rem := by
          have : b ∈ extA (ltW gs rem) ((aliveS rem).take k) := by rw [← hP.out]; simp
          exact List.mem_of_mem_take (mem_extA.1 this).1
        have hbr := HAR.out b hbm
        obtain ⟨bn, hbn⟩ : ∃ j : Nat, b = j := ⟨b.toNat, by omega⟩
        subst hbn
        have hbl : bn < n := by omega
        have hblz : (bn : Int) < (n : Int) := by omega
        rw [← hol] at HI
        obtain ⟨gb, goff, hp1, _, _, hcell0⟩ := HI.out.cellAt 0 (by simp)
        subst hp1
        rw [hol] at HI
        have hcell0 : wr.cell? ⟨gb, goff, none⟩ = some (.int .i64 bn) := hcell0
        obtain ⟨bv2, fv2, hpv2, _, _, hcb⟩ := (HV.out.keep hbw).cellAt bn (by rw [HVL.out]; exact hbl)
        simp only [Option.some.injEq, Addr.mk.injEq, and_true] at hpv2
        obtain ⟨rfl, rfl⟩ := hpv2
        rw [HVG.out bn hbl] at hcb
        obtain ⟨xb, hxb⟩ : ∃ x, wt (remB rem) gs bn = x := ⟨_, rfl⟩
        rw [hxb] at hcb
        have L1 : ltW gs rem cn bn = decide (xc < xb) := by unfold ltW; rw [hxc, hxb]
        have L2 : ltW gs rem bn cn = decide (xb < xc) := by unfold ltW; rw [hxc, hxb]
        clear hbm hbr hxb hxc
        rcases Int.lt_trichotomy xc xb with h | h | h
        · have HX : Hid ([(cn : Int)] = extA (ltW gs rem) ((aliveS rem).take (k + 1))) := Lib.hid (by rw [HS.out]; simp only [exStep]; rw [L1, if_pos (decide_eq_true h)])
          have e1 : decide (xc < xb) = true := decide_eq_true h
          clear L1 L2
          go_wp2_with fail
          go_quiet (fail)
          all_goals
            go_wp2_with fail
            go_roundw
            case rel => exact ⟨k + 1, 1, [(cn : Int)], by omega, by omega, by go_num, own1 _ hbel.size, (below_drewN hbel _).alloc hbel.size _, HX⟩
            case measure => simp [intOf] <;> omega
        · have HX : Hid ((bn : Int) :: t ++ [(cn : Int)] = extA (ltW gs rem) ((aliveS rem).take (k + 1))) := Lib.hid (by rw [HS.out]; simp only [exStep]; rw [L1, L2, if_neg (by rw [decide_eq_true_iff]; omega), if_neg (by rw [decide_eq_true_iff]; omega)])
          have e1 : decide (xc < xb) = false := decide_eq_false (by omega)
          have e2 : (xc == xb) = true := by rw [h]; simp
          clear L1 L2 h
          go_wp2_with fail
          go_quiet (fail)
          all_goals
            go_wp2_with fail
            go_quiet (fail)
            all_goals
              have HOW := Lib.hid (fun q => ownsRow_below hown (below_drewN (Below.refl wr.heap.size wr) q))
              have HBD := Lib.hid (fun q => below_drewN hbel q)
              go_wp2_with (at_builtin; go_must (refine append_one erI rfl rfl (HOW.out _) rfl rfl rfl (by simp [Value.oneCell']) (by omega) (by omega) (HBD.out _).size ?_); intro v' w4 hown1 _ hb1' hne1)
              go_roundw
              case rel =>
                refine ⟨k + 1, m + 1, (bn : Int) :: t ++ [(cn : Int)], by omega, by omega, by go_num, ?_, (HBD.out _).trans hb1', HX⟩
                rw [List.map_append]
                exact hown1
              case measure => simp [intOf] <;> omega
        · have HX : Hid ((bn : Int) :: t = extA (ltW gs rem) ((aliveS rem).take (k + 1))) := Lib.hid (by rw [HS.out]; simp only [exStep]; rw [L1, L2, if_neg (by rw [decide_eq_true_iff]; omega), if_pos (decide_eq_true h)])
          have e1 : decide (xc < xb) = false := decide_eq_false (by omega)
          have e2 : (xc == xb) = false := by rw [beq_eq_false_iff_ne]; omega
          clear L1 L2 h
          go_wp2_with fail
          go_quiet (fail)
          all_goals
            go_wp2_with fail
            go_quiet (fail)
            all_goals
              have HOW := Lib.hid (fun q => ownsRow_below hown (below_drewN (Below.refl wr.heap.size wr) q))
              have HBD := Lib.hid (fun q => below_drewN hbel q)
              go_wp2_with fail
              go_roundw
              case rel => exact ⟨k + 1, m, _, by omega, by omega, by go_num, HOW.out _, HBD.out _, HX⟩
              case measure => simp [intOf] <;> omega
    · have hltz : ¬ (k : Int) < (len : Int) := by omega
      have HQ : Hid (lowS gs rem = q) := Lib.hid (by rw [hP.out, List.take_of_length_le (by rw [HN.out]; omega)]; rfl)
      have hq0 : q ≠ [] := by rw [← HQ.out]; exact HLN.out
      have hm0 : 0 < m := by rw [← hol]; exact List.length_pos_iff.2 hq0
      have hm0z : (0 : Int) < (m : Int) := by omega
      obtain ⟨gb, goff, hp1, _, _, hcell0⟩ := HI.out.cellAt 0 (by rw [hol]; exact hm0)
      have HI := Lib.hid (show IntsAt wr (.slice p5 m c5) q from HI.out)
      subst hp1
      have hcell0 : wr.cell? ⟨gb, goff, none⟩ = some (.int .i64 (q.getD 0 0)) := hcell0
      obtain ⟨y0, hy0⟩ : ∃ y, q.getD 0 0 = y := ⟨_, rfl⟩
      rw [hy0] at hcell0
      have HF := Lib.hid (Fresh.owned hown)
      have hqlow : ∀ z ∈ q, (0 : Int) ≤ z ∧ z < (n : Int) := fun z hz => by
        rw [← HQ.out] at hz; exact HAR.out z (low_sub hz)
      obtain ⟨d6, d10, d11, d12, df12⟩ := CE.out wr hbw
      clear hown hlow
      by_cases hm1 : 1 < m
      · have hm1z : (1 : Int) < (m : Int) := by omega
        have HX : Hid ((breakS ties (ear.map wholesS) q lots true).1 = (xn : Int)) := Lib.hid (by
          have := HXS.out
          rw [HQ.out, if_pos (by rw [hol]; exact hm1)] at this
          exact this.symm)
        have HTQ : Hid (tiedW gs rem = q) := Lib.hid (by rw [HTW.out, HQ.out, if_pos (by rw [hol]; exact hm1)])
        obtain ⟨z1, hz1⟩ : ∃ z, (breakS ties (ear.map wholesS) q lots true).2 = z := ⟨_, rfl⟩
        have BK : Hid (∀ wq, Below wr.heap.size wr wq → Calls Try.prog 80 #[.int .i64 ties, ve, .slice (some ⟨gb, goff, none⟩) m c5, vl, .bool true] wq fun e w' => e = .returned (.tuple #[.int .i64 (xn : Int), .bool z1]) ∧ Below wq.heap.size wq w') := Lib.hid (fun wq h => by
          have := TB.out ve _ vl q wq (show RoundsAt wq ve _ from (HE.out.keep (bel2' hbw h)).slice) (HI.out.keep h) (HL.out.keep (bel2' hbw h)) ties true
          rw [HX.out, hz1] at this
          exact this)
        have S0 : Hid (wr.drew.cell? ⟨B, 6, none⟩ = some (.int .i64 ties) ∧ wr.drew.cell? ⟨B, 12, none⟩ = some ve ∧ wr.drew.cell? ⟨B, 10, none⟩ = some vl) := Lib.hid ⟨d6, d12, d10⟩
        have hdw : Below wr.heap.size wr wr.drew := (Below.refl _ _).drew
        clear hz1 d6 d10 d12
        go_wp2_with fail
        go_region_held3 (fun w' => w'.cell? ⟨B, 6, none⟩ = some (.int .i64 ties) ∧ w'.cell? ⟨B, 12, none⟩ = some ve ∧ w'.cell? ⟨B, 10, none⟩ = some vl)
          (first | exact S1.out | exact S0.out)
          (first | (go_at_call 80; ((with_reducible refine (BK.out _ hdw).mono ?_); rintro e wb ⟨rfl, hbb⟩; have hbT := bel2' hdw hbb; have S1 := Lib.hid (And.intro (cell_keep hbb S0.out.1) (And.intro (cell_keep hbb S0.out.2.1) (cell_keep hbb S0.out.2.2))))))
        all_goals
          have hbC := bel2' hbw hbT
          have HVT : Hid (Made w.heap.size (fun w => IntsAt w (.slice (some ⟨gb, goff, none⟩) m c5) (tiedW gs rem)) wb) := Lib.hid (by rw [HTQ.out]; exact RowAt.made (HI.out.keep hbT) (fun b hb => Nat.le_trans hb1.size (HF.out b hb)))
          have hK := HC2.out _ hbC
          obtain ⟨q6, q10, q11, q12, qf12⟩ := CE.out _ hbC
          have hcx := hK.row.cell (j := xn) (by rw [HNn.out]; omega)
          have hfx := hK.row.free xn
          have hxz : (xn : Int) < (n : Int) := by omega
          have HKW := Lib.hid (hK.flag xn false)
          have HLW := Lib.hid ((HE.out.keep hbC).put (j := xn) hgE (.bool false))
          have HVW : Hid (IntsAt (wb.setCell ⟨g, xn, none⟩ (.bool false)) (.slice pv n cv) (votesS gs rem)) := Lib.hid (RowAt.same (HV.out.keep hbC) (fun b hb => Below.heap_setCell _ _ _ _ (by exact HVF.out b hb)))
          have RA : Hid (∀ wq, Below wb.heap.size (wb.setCell ⟨g, xn, none⟩ (.bool false)) wq → Calls Try.prog 78 #[.slice pv n cv] wq fun e w' => ∃ v', e = .returned v' ∧ (∃ css, RLst wq.heap.size v' w' (wholesS (votesS gs rem)) css) ∧ Below wq.heap.size wq w') := Lib.hid (fun wq h => ratios_c (HVW.out.keep (by rw [World.size_setCell]; exact h)) HVR.out (by rw [HVL.out]; omega))
          obtain ⟨_, _, _, r12, rf12⟩ := HKW.out.cells
          go_wp2_with fail
          have hbd : Below wb.heap.size (wb.setCell ⟨g, xn, none⟩ (.bool false)) (wb.setCell ⟨g, xn, none⟩ (.bool false)).drew := (Below.refl _ _).drew
          have hsE := hbC.size
          go_region_law (first
            | (refine step_append_lst2 erRR (by rfl) (by rfl) (HL5.out _) (by rfl) (by rfl) (c := [.slice pz nz cz]) (fun j u h => alloc_cell _ _ _ _ j u (by simpa using h)) (by rfl) HONE.out HN1.out HN2.out (HSZ.out _) (HO5.out _) (HEL.out _) ?_; intro v6 w6 hL6 hb6 hg6 hG6; obtain ⟨py, ny, cy, rfl⟩ := own_sl hL6.own; have hL6 := Lib.hid hL6; have hG6 := Lib.hid hG6; have hg6 := Lib.hid hg6; have HB6 := Lib.hid hb6; have k12 := HC6.out _ _ hb6; have f12 := HF6.out _ _ hb6)
            | (go_simp; go_at_call 78; ((with_reducible refine (RA.out _ hbd).mono ?_); rintro e w5 ⟨v5, rfl, ⟨cs5, hR5⟩, hb5⟩; obtain ⟨pz, nz, cz, rfl⟩ := own_sl hR5.own; obtain ⟨hW5, HL5, HEL, HSZ, HO5, HC6, HF6, HONE⟩ := excl_arm hbC hK HE.out hBE hgE hEw HO.out hb5 hR5; have r12b := cell_keep (by rw [World.size_setCell]; exact hW5) r12; have r12c := fun ob => cell_keep (by rw [World.size_setCell]; exact hW5.alloc (by have := hW5.size; rw [World.size_setCell] at this; exact this) ob) r12)))
          all_goals
            go_wp2_with fail
            go_ret2
            have hWa := hW5.alloc (B := wb.heap.size) (by have := hW5.size; rw [World.size_setCell] at this; exact this) (.cells #[.slice pz nz cz] 48)
            have hD := excl_done hbC hK HE.out hB0 hg0 hBE hgE hEw hWa HB6.out hg6.out hG6.out hL6.out HVT.out
            exact ⟨.slice (some ⟨gb, goff, none⟩) m c5, .slice py ny cy, _, rfl, hD⟩
      · have hm1z : ¬ (1 : Int) < (m : Int) := by omega
        have hone : q.length = 1 := by omega
        have HX : Hid (y0 = (xn : Int)) := Lib.hid (by
          have := HXS.out
          rw [HQ.out, if_neg (by rw [hol]; exact hm1)] at this
          rw [← hy0, this, head_getD hone])
        have e := HX.out
        subst e
        have HTQ : Hid (tiedW gs rem = []) := Lib.hid (by rw [HTW.out, HQ.out, if_neg (by rw [hol]; exact hm1)])
        have hbC := hbw
        have HVT : Hid (Made w.heap.size (fun w => IntsAt w (.slice none 0 0) (tiedW gs rem)) wr) := Lib.hid (by rw [HTQ.out]; exact Made.of_true fun w => RowAt.nil w)
        have hK := HC2.out _ hbC
        obtain ⟨q6, q10, q11, q12, qf12⟩ := CE.out _ hbC
        have hcx := hK.row.cell (j := xn) (by rw [HNn.out]; omega)
        have hfx := hK.row.free xn
        have hxz : (xn : Int) < (n : Int) := by omega
        have HKW := Lib.hid (hK.flag xn false)
        have HLW := Lib.hid ((HE.out.keep hbC).put (j := xn) hgE (.bool false))
        have HVW : Hid (IntsAt (wr.setCell ⟨g, xn, none⟩ (.bool false)) (.slice pv n cv) (votesS gs rem)) := Lib.hid (RowAt.same (HV.out.keep hbC) (fun b hb => Below.heap_setCell _ _ _ _ (by exact HVF.out b hb)))
        have RA : Hid (∀ wq, Below wr.heap.size (wr.setCell ⟨g, xn, none⟩ (.bool false)) wq → Calls Try.prog 78 #[.slice pv n cv] wq fun e w' => ∃ v', e = .returned v' ∧ (∃ css, RLst wq.heap.size v' w' (wholesS (votesS gs rem)) css) ∧ Below wq.heap.size wq w') := Lib.hid (fun wq h => ratios_c (HVW.out.keep (by rw [World.size_setCell]; exact h)) HVR.out (by rw [HVL.out]; omega))
        obtain ⟨_, _, _, r12, rf12⟩ := HKW.out.cells
        go_wp2_with fail
        have hbd : Below wr.heap.size (wr.setCell ⟨g, xn, none⟩ (.bool false)) (wr.setCell ⟨g, xn, none⟩ (.bool false)).drew := (Below.refl _ _).drew
        have hsE := hbC.size
        go_region_law (first
          | (refine step_append_lst2 erRR (by rfl) (by rfl) (HL5.out _) (by rfl) (by rfl) (c := [.slice pz nz cz]) (fun j u h => alloc_cell _ _ _ _ j u (by simpa using h)) (by rfl) HONE.out HN1.out HN2.out (HSZ.out _) (HO5.out _) (HEL.out _) ?_; intro v6 w6 hL6 hb6 hg6 hG6; obtain ⟨py, ny, cy, rfl⟩ := own_sl hL6.own; have hL6 := Lib.hid hL6; have hG6 := Lib.hid hG6; have hg6 := Lib.hid hg6; have HB6 := Lib.hid hb6; have k12 := HC6.out _ _ hb6; have f12 := HF6.out _ _ hb6)
          | (go_simp; go_at_call 78; ((with_reducible refine (RA.out _ hbd).mono ?_); rintro e w5 ⟨v5, rfl, ⟨cs5, hR5⟩, hb5⟩; obtain ⟨pz, nz, cz, rfl⟩ := own_sl hR5.own; obtain ⟨hW5, HL5, HEL, HSZ, HO5, HC6, HF6, HONE⟩ := excl_arm hbC hK HE.out hBE hgE hEw HO.out hb5 hR5; have r12b := cell_keep (by rw [World.size_setCell]; exact hW5) r12; have r12c := fun ob => cell_keep (by rw [World.size_setCell]; exact hW5.alloc (by have := hW5.size; rw [World.size_setCell] at this; exact this) ob) r12)))
        all_goals
          go_wp2_with fail
          go_ret2
          have hWa := hW5.alloc (B := wr.heap.size) (by have := hW5.size; rw [World.size_setCell] at this; exact this) (.cells #[.slice pz nz cz] 48)
          have hD := excl_done hbC hK HE.out hB0 hg0 hBE hgE hEw hWa HB6.out hg6.out hG6.out hL6.out HVT.out
          exact ⟨.slice none 0 0, .slice py ny cy, _, rfl, hD⟩

end Go.Proofs.Ytbnhgmikegdppaa

/- A round in memory; (*count).round. -/
namespace Go.Proofs.Nums

theorem sum_take_step {l : List Int} {k : Nat} {y : Int} (h : k < l.length) (hy : l.getD k 0 = y) : (l.take (k + 1)).sum = (l.take k).sum + y := by
  rw [take_snoc_i h, hy, List.sum_append]
  simp
theorem keep_len (rem : List Bool) : (keepS rem).length = rem.length := List.length_map _
theorem keep_get {rem : List Bool} {k : Nat} (h : k < rem.length) : (keepS rem).getD k 0 = if rem.getD k false = true then 1 else 0 := by
  unfold keepS
  rw [List.getD_eq_getElem?_getD, List.getElem?_map, List.getD_eq_getElem?_getD, List.getElem?_eq_getElem h]
  rfl

end Go.Proofs.Nums
namespace Go.Proofs.Ytbnhgmikegdppaa
open Go.RowKit Go.Proofs.Kit Go.Proofs.Nums

/-- The fourteen cells of a round. -/
def rndA (a b q1 q2 e1 e2 s1 s2 l1 l2 l3 : Value) : Array Value := #[a, b, .bool false, q1, q2, .bool false, e1, e2, .bool false, s1, s2, l1, l2, l3]
/-- The numbers of a round. -/
structure RndH (w : World) (a b q1 q2 e1 e2 s1 s2 : Value) (r : Rnd) : Prop where
  votes : RatsAt w a (wholesS r.votes)
  keep : RatsAt w b (wholesS r.keep)
  quota : ratR w [.bool false, q1, q2] (wholeQ r.quota)
  exh : ratR w [.bool false, e1, e2] (wholeQ r.exh)
  sur : ratR w [.bool false, s1, s2] (wholeQ 0)
/-- A round reads. -/
def rndR (w : World) (c : List Value) (r : Rnd) : Prop := ∃ a b q1 q2 e1 e2 s1 s2 l1 l2 l3, c = (rndA a b q1 q2 e1 e2 s1 s2 l1 l2 l3).toList ∧ RndH w a b q1 q2 e1 e2 s1 s2 r ∧ IntsAt w l1 r.el ∧ IntsAt w l2 r.ex ∧ IntsAt w l3 r.ti

/-- A slice. -/
def SlV (v : Value) : Prop := ∃ p n c, v = .slice p n c

theorem blk14 {b : Nat} {w : World} {x0 x1 x2 x3 x4 x5 x6 x7 x8 x9 x10 x11 x12 x13 : Value} (h : Blk b #[x0, x1, x2, x3, x4, x5, x6, x7, x8, x9, x10, x11, x12, x13] w) (y0 y1 y2 y3 y4 y5 y6 y7 y8 y9 y10 y11 y12 y13 : Value) :
    Blk b #[y0, y1, y2, y3, y4, y5, y6, y7, y8, y9, y10, y11, y12, y13] ((((((((((((((w.setCell ⟨b, 0, none⟩ y0).setCell ⟨b, 1, none⟩ y1).setCell ⟨b, 2, none⟩ y2).setCell ⟨b, 3, none⟩ y3).setCell ⟨b, 4, none⟩ y4).setCell ⟨b, 5, none⟩ y5).setCell ⟨b, 6, none⟩ y6).setCell ⟨b, 7, none⟩ y7).setCell ⟨b, 8, none⟩ y8).setCell ⟨b, 9, none⟩ y9).setCell ⟨b, 10, none⟩ y10).setCell ⟨b, 11, none⟩ y11).setCell ⟨b, 12, none⟩ y12).setCell ⟨b, 13, none⟩ y13) := by
  have h0 := blk_put h (o := 0) (by simp) y0
  have h1 := blk_put h0 (o := 1) (by simp) y1
  have h2 := blk_put h1 (o := 2) (by simp) y2
  have h3 := blk_put h2 (o := 3) (by simp) y3
  have h4 := blk_put h3 (o := 4) (by simp) y4
  have h5 := blk_put h4 (o := 5) (by simp) y5
  have h6 := blk_put h5 (o := 6) (by simp) y6
  have h7 := blk_put h6 (o := 7) (by simp) y7
  have h8 := blk_put h7 (o := 8) (by simp) y8
  have h9 := blk_put h8 (o := 9) (by simp) y9
  have h10 := blk_put h9 (o := 10) (by simp) y10
  have h11 := blk_put h10 (o := 11) (by simp) y11
  have h12 := blk_put h11 (o := 12) (by simp) y12
  exact blk_put h12 (o := 13) (by simp) y13
theorem made14 {b : Nat} {w : World} {R : World → Prop} (h : Made (b + 1) R w) (y0 y1 y2 y3 y4 y5 y6 y7 y8 y9 y10 y11 y12 y13 : Value) :
    Made (b + 1) R ((((((((((((((w.setCell ⟨b, 0, none⟩ y0).setCell ⟨b, 1, none⟩ y1).setCell ⟨b, 2, none⟩ y2).setCell ⟨b, 3, none⟩ y3).setCell ⟨b, 4, none⟩ y4).setCell ⟨b, 5, none⟩ y5).setCell ⟨b, 6, none⟩ y6).setCell ⟨b, 7, none⟩ y7).setCell ⟨b, 8, none⟩ y8).setCell ⟨b, 9, none⟩ y9).setCell ⟨b, 10, none⟩ y10).setCell ⟨b, 11, none⟩ y11).setCell ⟨b, 12, none⟩ y12).setCell ⟨b, 13, none⟩ y13) := by
  have one : ∀ {w : World} (j : Nat) (v : Value), Made (b + 1) R w → Made (b + 1) R (w.setCell ⟨b, j, none⟩ v) := fun {w} j v h =>
    On.mono (On.step h fun b' hb => Below.heap_setCell _ _ _ _ (by simp only; omega)) fun b' hb => ⟨hb.1, by rw [World.size_setCell]; exact hb.2⟩
  exact one _ _ (one _ _ (one _ _ (one _ _ (one _ _ (one _ _ (one _ _ (one _ _ (one _ _ (one _ _ (one _ _ (one _ _ (one _ _ (one _ _ h)))))))))))))
theorem below14 {b B : Nat} {w0 w : World} (h : Below B w0 w) (hb : B ≤ b) (y0 y1 y2 y3 y4 y5 y6 y7 y8 y9 y10 y11 y12 y13 : Value) :
    Below B w0 ((((((((((((((w.setCell ⟨b, 0, none⟩ y0).setCell ⟨b, 1, none⟩ y1).setCell ⟨b, 2, none⟩ y2).setCell ⟨b, 3, none⟩ y3).setCell ⟨b, 4, none⟩ y4).setCell ⟨b, 5, none⟩ y5).setCell ⟨b, 6, none⟩ y6).setCell ⟨b, 7, none⟩ y7).setCell ⟨b, 8, none⟩ y8).setCell ⟨b, 9, none⟩ y9).setCell ⟨b, 10, none⟩ y10).setCell ⟨b, 11, none⟩ y11).setCell ⟨b, 12, none⟩ y12).setCell ⟨b, 13, none⟩ y13) := by
  have one : ∀ {w : World} (j : Nat) (v : Value), Below B w0 w → Below B w0 (w.setCell ⟨b, j, none⟩ v) := fun {w} j v h => h.setCell (p := ⟨b, j, none⟩) hb v
  exact one _ _ (one _ _ (one _ _ (one _ _ (one _ _ (one _ _ (one _ _ (one _ _ (one _ _ (one _ _ (one _ _ (one _ _ (one _ _ (one _ _ h)))))))))))))

end Go.Proofs.Ytbnhgmikegdppaa
