/- Rows of Ratios that are made: Wholes. A list of tied candidates. -/
import Derived.Test.YthplbhgbgcfogaaT5
import Derived.Test.YthplbhgbgcfogaaT4
import Derived.Test.YthplbhgbgcfogaaT9
namespace Go.Proofs.Nums

theorem mk'_lt {neg : Bool} {a b M : Nat} (ha : a < M) (hb : b < M) (h2 : 2 ≤ M) : (Q.mk' neg a b).n < M ∧ (Q.mk' neg a b).d < M := by
  unfold Q.mk'
  split
  · exact ⟨by show 0 < M; omega, by show 1 < M; omega⟩
  · exact ⟨Nat.lt_of_le_of_lt (Nat.div_le_self _ _) ha, Nat.lt_of_le_of_lt (Nat.div_le_self _ _) hb⟩
theorem mk'_pos {a b : Nat} : (Q.mk' false a b).neg = false := by
  unfold Q.mk'
  split <;> rfl
theorem ShQ.frac {a b : Nat} (ha : a < 4294967296) (hb : b < 4294967296) : ShQ (Q.mk' false a b) :=
  ⟨Q.mk'_nf _ _ _, mk'_pos, (mk'_lt ha hb (by decide)).1, (mk'_lt ha hb (by decide)).2⟩
/-- Integers as Ratios. -/
def wholeQ (x : Int) : Q := Q.mk' false x.toNat 1
def wholesS (l : List Int) : List Q := l.map wholeQ
theorem wholes_snoc {l : List Int} {k : Nat} {y : Int} (h : k < l.length) (hy : l.getD k 0 = y) : wholesS (l.take (k + 1)) = wholesS (l.take k) ++ [wholeQ y] := by
  unfold wholesS
  rw [take_snoc_i h, hy, List.map_append]
  rfl
theorem wholes_len (l : List Int) : (wholesS l).length = l.length := List.length_map _
/-- A list of tied candidates among n. -/
def tiedS (n : Int) (l : List Int) : List Int := risingS (ballotS n ((n - 1) :: l.take 7))

end Go.Proofs.Nums
namespace Go.Proofs.Ythplbhgbgcfogaa
open Go.RowKit Go.Proofs.Kit Go.Proofs.Nums

theorem nrm_made {w : World} {v : Value} {n L B : Nat} (h : Nrm w v n L) (hf : Fresh B v) : Made B (fun w => Nrm w v n L) w :=
  (RowAt.made h.1.1 hf).imp fun _ g => ⟨⟨g, h.1.2⟩, h.2⟩
theorem ratR_made {w : World} {B : Nat} {p l k p' l' k'} {q : Q} (h : RatN w (.agg #[.bool false, .slice p l k, .slice p' l' k']) q 2) (hs : ShQ q) (f1 : Fresh B (.slice p l k)) (f2 : Fresh B (.slice p' l' k')) : Made B (fun w => ratR w [.bool false, .slice p l k, .slice p' l' k'] q) w := by
  obtain ⟨vn, vd, e, h1, h2⟩ := h
  have e' := e
  simp only [Value.agg.injEq, Array.mk.injEq, List.cons.injEq, and_true] at e'
  obtain ⟨e0, rfl, rfl⟩ := e'
  exact ((nrm_made h1 f1).both (nrm_made h2 f2)).imp fun w' g => ⟨_, _, _, _, _, _, rfl, ⟨_, _, by rw [← e0], g.1, g.2⟩, hs⟩
theorem erQ : ElemRow Try.prog 34 43 (.agg #[.bool false, .slice none 0 0, .slice none 0 0]) 3 56 := ⟨Try.underlying34, by kernel_rfl, rfl, by decide⟩
theorem erRR : ElemRow Try.prog 28 34 (.slice none 0 0) 1 24 := ⟨Try.underlying28, by kernel_rfl, rfl, by decide⟩
/-- A row of Ratios under construction. -/
abbrev RLst (B : Nat) (v : Value) (w : World) (l : List Q) (css : List (List Value)) : Prop := Lst ratR B B 43 3 v w l css

theorem Lst.fresh_elt {α : Type} {R : World → List Value → α → Prop} {B base k : Nat} {e : TypeId} {w w1 : World} {v : Value} {l : List α} {css : List (List Value)} {S : World → Prop} (hL : Lst R B base e k v w l css) (hm : Made w.heap.size S w1) (hB : B ≤ w.heap.size) : On (fun b => B ≤ b ∧ b < w1.heap.size ∧ v.ownBlock ≠ some b) S w1 :=
  On.mono (hm.off (o := v.ownBlock) fun g hg => (hL.lt g hg).2) fun _ hb => ⟨Nat.le_trans hB hb.1, hb.2⟩

theorem whole_s (n : Nat) (hn : n ≤ 1000000) (w : World) :
    Calls Try.prog 36 #[.int .i64 n] w fun e w' => ∃ p l k p' l' k', e = .returned (.agg #[.bool false, .slice p l k, .slice p' l' k']) ∧ Made w.heap.size (fun w => ratR w [.bool false, .slice p l k, .slice p' l' k'] (wholeQ n)) w' ∧ Below w.heap.size w w' := by
  refine (whole_f n hn w).mono ?_
  rintro e w' ⟨p, l, k, p', l', k', rfl, h1, f1, f2, hb⟩
  rw [mk'_pos] at h1
  exact ⟨p, l, k, p', l', k', by rw [mk'_pos], ratR_made h1 (ShQ.frac (by omega) (by omega)) f1 f2, hb⟩

set_option maxRecDepth 100000 in
set_option maxHeartbeats 4000000 in
theorem wholes_c {v : Value} {l : List Int} {w : World} (hv : IntsAt w v l) (hr : ∀ x ∈ l, 0 ≤ x ∧ x ≤ 1000000) (hl : l.length ≤ 1000) :
    Calls Try.prog 18 #[v] w fun e w' => ∃ v', e = .returned v' ∧ (∃ css, RLst w.heap.size v' w' (wholesS l) css) ∧ Below w.heap.size w w' := by
  have HV := Lib.hid hv
  have HR := Lib.hid hr
  obtain ⟨p, c, rfl⟩ := hv.shape
  obtain ⟨len, hlen⟩ : ∃ n, l.length = n := ⟨_, rfl⟩
  have HN := Lib.hid hlen
  rw [hlen] at HV hl ⊢
  clear hv hr hlen
  go_enter Try.func18, Try.ntmps18
  go_wp2_with fail
  go_loopw [3, 4] (fun ov iv wr => ∃ k : Nat, ∃ qs : List Q, ∃ css, k ≤ len ∧ qs.length = k ∧ iv = .int .i64 k ∧ Below w.heap.size w wr ∧ Hid (RLst w.heap.size ov wr qs css) ∧ Hid (qs = wholesS (l.take k))) (fun _ iv _ => len - (intOf iv).toNat)
  case atStart => exact ⟨0, [], [], by omega, rfl, rfl, Below.refl _ _, Lib.hid (Lst.nil _), Lib.hid rfl⟩
  case round =>
    obtain ⟨k, qs, css, hk, hqs, rfl, hbel, hL, hQ⟩ := hrel
    by_cases hlt : k < len
    · have hltz : (k : Int) < (len : Int) := by omega
      obtain ⟨bb, off, hp0, hc1, hc2, hcell⟩ := (HV.out.keep hbel).cellAt k (by rw [HN.out]; exact hlt)
      subst hp0
      have hmem := HR.out (l.getD k 0) (mem_getD (by rw [HN.out]; exact hlt) rfl)
      obtain ⟨y, hy⟩ : ∃ y, l.getD k 0 = y := ⟨_, rfl⟩
      rw [hy] at hcell hmem
      obtain ⟨cn, hcn⟩ : ∃ j : Nat, y = j := ⟨y.toNat, by omega⟩
      subst hcn
      have HS := Lib.hid (wholes_snoc (by rw [HN.out]; exact hlt) hy)
      have HW : Hid (∀ w, Calls Try.prog 36 #[.int .i64 cn] w fun e w' => ∃ p l k p' l' k', e = .returned (.agg #[.bool false, .slice p l k, .slice p' l' k']) ∧ Made w.heap.size (fun w => ratR w [.bool false, .slice p l k, .slice p' l' k'] (wholeQ cn)) w' ∧ Below w.heap.size w w') := Lib.hid (fun w => whole_s cn (by omega) w)
      clear hy hmem
      go_wp2_with (first | (go_at_call 36; ((with_reducible refine (HW.out _).mono ?_); rintro e w1 ⟨p1, l1, k1, p2, l2, k2, rfl, hm1, hb1⟩; have hB1 := bel2' hbel hb1; have HM := Lib.hid (Lst.fresh_elt hL.out hm1 hbel.size); clear hm1)) | (at_builtin; go_must (refine append_lst erQ rfl rfl (hL.out.keep hb1) rfl rfl rfl (by simp [Value.oneCell']) (by omega) (by omega) hB1.size HM.out ?_); intro v' w4 hL4 hb4 hg4 hv4; have HL4 := Lib.hid hL4; clear hL4))
      go_roundw
      case rel => exact ⟨k + 1, _, _, by omega, by simp [hqs], by go_num, hB1.trans hb4, HL4, Lib.hid (by rw [hQ.out, HS.out])⟩
      case measure => simp [intOf] <;> omega
    · have hltz : ¬ (k : Int) < (len : Int) := by omega
      have HX : Hid (qs = wholesS l) := Lib.hid (by rw [hQ.out, List.take_of_length_le (by rw [HN.out]; omega)])
      go_wp2_with fail
      go_ret
      exact ⟨_, rfl, ⟨_, by rw [← HX.out]; exact hL.out⟩, hbel⟩

set_option maxRecDepth 100000 in
set_option maxHeartbeats 4000000 in
theorem tied_c {v : Value} {l : List Int} {w : World} (hv : IntsAt w v l) (n : Nat) (h1 : 1 ≤ n) (h2 : n ≤ 1000) :
    Calls Try.prog 10 #[.int .i64 n, v] w fun e w' => ∃ v', e = .returned v' ∧ IntsAt w' v' (tiedS n l) ∧ Below w.heap.size w w' := by
  obtain ⟨n1, hn1⟩ : ∃ n1 : Nat, n1 + 1 = n := ⟨n - 1, by omega⟩
  have en1 : (n : Int) - 1 = (n1 : Int) := by omega
  have en2 : IntKind.i64.wrap (n1 : Int) = (n1 : Int) := w64 (by omega) (by omega)
  have HIN : Hid (∀ w', Below w.heap.size w w' → Calls Try.prog 22 #[v, .int .i64 7] w' fun e w'' => ∃ v', e = .returned v' ∧ IntsAt w'' v' (l.take 7) ∧ w' = w'') := Lib.hid (fun w' hb => ints_c (hv.keep hb) 7 7 rfl (by omega))
  obtain ⟨t, ht⟩ : ∃ t, l.take 7 = t := ⟨_, rfl⟩
  have htl : t.length ≤ 7 := by rw [← ht, List.length_take]; omega
  have HT : Hid (tiedS n l = risingS (ballotS n ((n1 : Int) :: t))) := Lib.hid (by unfold tiedS; rw [ht, en1])
  rw [ht] at HIN
  rw [HT.out]
  have HBA : Hid (∀ w v, IntsAt w v ((n1 : Int) :: t) → Calls Try.prog 21 #[.int .i64 n, v] w fun e w' => ∃ v', e = .returned v' ∧ IntsAt w' v' (ballotS n ((n1 : Int) :: t)) ∧ Below w.heap.size w w') := Lib.hid (fun w v h => (mballot_c h n (by omega) (by omega)).mono (by rintro e w' ⟨v', rfl, g1, _, g2⟩; exact ⟨v', rfl, g1, g2⟩))
  have HRI : Hid (∀ w v, IntsAt w v (ballotS n ((n1 : Int) :: t)) → Calls Try.prog 19 #[v] w fun e w' => ∃ v', e = .returned v' ∧ IntsAt w' v' (risingS (ballotS n ((n1 : Int) :: t))) ∧ Below w.heap.size w w') := Lib.hid (fun w v h => (rising_c h).mono (by rintro e w' ⟨v', rfl, g1, _, g2⟩; exact ⟨v', rfl, g1, g2⟩))
  obtain ⟨b, hbb⟩ : ∃ b, ballotS n ((n1 : Int) :: t) = b := ⟨_, rfl⟩
  rw [hbb] at HBA HRI ⊢
  obtain ⟨r, hrr⟩ : ∃ r, risingS b = r := ⟨_, rfl⟩
  rw [hrr] at HRI ⊢
  have O := Lib.hid (World.ownsRow_lit (base := w.heap.size) (e := 3) (size := 1) w #[.int .i64 n1] 1 (Nat.le_refl _) (by unfold maxLen; omega) rfl)
  clear hv ht hbb hrr HT
  go_enter Try.func10, Try.ntmps10
  go_wp2_with (first
    | (go_at_call 22; ((with_reducible refine (HIN.out _ ((Below.refl _ _).alloc (Nat.le_refl _) _)).mono ?_); rintro e w1 ⟨v1, rfl, hi1, rfl⟩))
    | (at_builtin; go_must (refine append_read erI (by rfl) (by rfl) O.out (by rfl) hi1 (by rfl) (ints_one _) (by simp; omega) (by simp; omega) (by simp) ?_); intro v2 w2 hown2 hb2; have hi2 : IntsAt w2 v2 ((n1 : Int) :: t) := RowAt.owned hown2; clear hown2)
    | (go_at_call 21; ((with_reducible refine (HBA.out _ _ hi2).mono ?_); rintro e w3 ⟨v3, rfl, hi3, hb3⟩))
    | (go_at_call 19; ((with_reducible refine (HRI.out _ _ hi3).mono ?_); rintro e w4 ⟨v4, rfl, hi4, hb4⟩)))
  go_ret
  exact ⟨_, rfl, hi4, bel2' (bel2' (below_new hb2) hb3) hb4⟩

end Go.Proofs.Ythplbhgbgcfogaa
