/- fixed.Parse. -/
import Derived.Test.YtaommeapngbgeaaDoorF3
import Derived.Test.YtaommeapngbgeaaDoorR24
import Derived.Test.YtaommeapngbgeaaDoorGT
namespace Go.Proofs.YtaommeapngbgeaaDoor
open Go.RowKit Go.Proofs.Kit Go.Proofs.Nums

set_option maxRecDepth 1000000 in
set_option maxHeartbeats 4000000 in
theorem idx_pt (s : ByteArray) (w : World) :
    Calls Tryd.prog 96 #[.string s, .string ⟨#[46]⟩] w fun e w' => e = .returned (.int .i64 (Lib.indexByte s.data.toList 46)) ∧ w' = w := by
  have IB := Lib.hid (fun w => Tryd.stringslite_IndexByte s 46 w)
  by_cases h : s.data.toList = [46]
  · have hl : s.toList = [46] := by rw [ByteArray.toList_eq]; exact h
    have hs : s = ⟨#[46]⟩ := by apply ByteArray.ext; rw [← Array.toList_inj]; exact h
    subst hs
    go_enter Tryd.func96, Tryd.ntmps96
    go_wp2_with fail
    go_ret
    exact ⟨rfl, rfl⟩
  · have hl : (s.toList == [46]) = false := by rw [ByteArray.toList_eq, beq_eq_false_iff_ne]; exact h
    have hl2 : (([46] : List UInt8) == s.toList) = false := by rw [ByteArray.toList_eq, beq_eq_false_iff_ne]; exact fun h' => h h'.symm
    have hl3 : ¬ s.toList = [46] := by rw [ByteArray.toList_eq]; exact h
    have hl4 : ¬ [46] = s.toList := fun h => hl3 h.symm
    clear h
    obtain ⟨R, hR⟩ : ∃ R, Lib.indexByte s.data.toList 46 = R := ⟨_, rfl⟩
    have IB2 : Hid (∀ w, Calls Tryd.prog 102 #[.string s, .int .u8 46] w fun e w' => e = .returned (.int .i64 R) ∧ w' = w) := Lib.hid (fun w => by rw [← hR]; exact IB.out w)
    rw [hR]
    clear IB hR
    go_enter Tryd.func96, Tryd.ntmps96
    go_wp2_with (go_at_call 102; (refine (IB2.out _).mono ?_; rintro e w3 ⟨rfl, rfl⟩))
    go_ret
    exact ⟨rfl, rfl⟩

/-- strings.Cut at '.'. -/
theorem cut_pt (s : ByteArray) (w : World) (hs : s.size ≤ 1000000) :
    Calls Tryd.prog 55 #[.string s, .string ⟨#[46]⟩] w fun e w' => e = .returned (.tuple #[.string ⟨(cutP s.data.toList).1.toArray⟩, .string ⟨(cutP s.data.toList).2.1.toArray⟩, .bool (cutP s.data.toList).2.2]) ∧ Below w.heap.size w w' := by
  obtain ⟨sep, hsep⟩ : ∃ sep : ByteArray, (⟨#[46]⟩ : ByteArray) = sep := ⟨_, rfl⟩
  have hz : sep.size = 1 := by rw [← hsep]; rfl
  have IB := fun w => idx_pt s w
  rw [hsep] at IB
  have key : Hid (∀ w, Calls Tryd.prog 80 #[.string s, .string sep] w fun e w' => e = .returned (.tuple #[.string ⟨(cutP s.data.toList).1.toArray⟩, .string ⟨(cutP s.data.toList).2.1.toArray⟩, .bool (cutP s.data.toList).2.2]) ∧ Below w.heap.size w w') := by
    refine Lib.hid fun w => ?_
    have hub := indexByte_lt s.data.toList 46
    unfold cutP
    rcases Int.lt_or_le (Lib.indexByte s.data.toList 46) 0 with h0 | h0
    · rw [if_pos h0]
      refine (scut_miss s sep w _ h0 (Lib.hid IB)).mono ?_
      rintro e w' ⟨rfl, hb⟩
      exact ⟨rfl, hb⟩
    · have hu := hub h0
      have hsz := Lib.size_eq s
      obtain ⟨n, hn⟩ : ∃ n : Nat, Lib.indexByte s.data.toList 46 = n := ⟨(Lib.indexByte s.data.toList 46).toNat, by omega⟩
      rw [hn] at hu IB ⊢
      rw [if_neg (by omega)]
      refine (scut_hit s sep w n (by omega) (by omega) hs (Lib.hid IB)).mono ?_
      rintro e w' ⟨rfl, hb⟩
      refine ⟨?_, hb⟩
      have e1 : s.extract 0 n = ⟨(s.data.toList.take n).toArray⟩ := bs_of (ext_upto s n)
      have e2 : s.extract (n + sep.size) s.size = ⟨(s.data.toList.drop (n + 1)).toArray⟩ := bs_of (by rw [hz]; exact ext_drop s (n + 1))
      rw [e1, e2]
      simp
  rw [hsep]
  obtain ⟨a, ha⟩ : ∃ a : ByteArray, (⟨(cutP s.data.toList).1.toArray⟩ : ByteArray) = a := ⟨_, rfl⟩
  obtain ⟨b, hb⟩ : ∃ b : ByteArray, (⟨(cutP s.data.toList).2.1.toArray⟩ : ByteArray) = b := ⟨_, rfl⟩
  obtain ⟨f, hf⟩ : ∃ f : Bool, (cutP s.data.toList).2.2 = f := ⟨_, rfl⟩
  rw [ha, hb, hf] at key ⊢
  clear ha hb hf hsep hz IB
  go_enter Tryd.func55, Tryd.ntmps55
  go_wp2_with (go_at_call 80; ((with_reducible refine (key.out _).mono ?_); rintro e w3 ⟨rfl, hb3⟩))
  go_ret3
  exact ⟨rfl, hb3⟩

/-- What fixed.Parse hands back. -/
def FP (ok : Bool) (n : Nat) (w : World) (e : Ending) (w' : World) : Prop :=
  (if ok = true then ∃ v, e = .returned (.tuple #[v, .bool true]) ∧ Nrm w' v n 78 else e = .returned (.tuple #[.slice none 0 0, .bool false])) ∧ Below w.heap.size w w'
theorem FP.no {ok : Bool} {n : Nat} {w : World} {e : Ending} {w' : World} (h : ok = false) (he : e = .returned (.tuple #[.slice none 0 0, .bool false])) (hb : Below w.heap.size w w') : FP ok n w e w' := ⟨by rw [h, if_neg (by simp)]; exact he, hb⟩
theorem FP.yes {ok : Bool} {n : Nat} {w : World} {v : Value} {w' : World} (h : ok = true) (he : Nrm w' v n 78) (hb : Below w.heap.size w w') : FP ok n w (.returned (.tuple #[v, .bool true])) w' := ⟨by rw [h, if_pos rfl]; exact ⟨v, rfl, he⟩, hb⟩

set_option maxRecDepth 1000000 in
set_option maxHeartbeats 4000000 in
theorem fparse_core {s wh pt0 pt1 pt t : ByteArray} {f ok1 ok2 okt : Bool} {n1 n2 x n p : Nat} {z : Int} (w : World)
    (PW : Hid (∀ w, Calls Tryd.prog 38 #[.int .i64 z] w fun e w' => ∃ v, e = .returned (.tuple #[v, .bool true]) ∧ Num w' v p 61 ∧ Below w.heap.size w w'))
    (CU : Hid (∀ w, Calls Tryd.prog 55 #[.string s, .string ⟨#[46]⟩] w fun e w' => e = .returned (.tuple #[.string wh, .string pt0, .bool f]) ∧ Below w.heap.size w w'))
    (TL : Hid (∀ w, Calls Tryd.prog 56 #[.string pt0, .string ⟨#[48]⟩] w fun e w' => e = .returned (.string pt1) ∧ Below w.heap.size w w'))
    (hpt : (pt1.toList = [] ∧ pt1.toList.isEmpty = true ∧ pt = ⟨#[48]⟩) ∨ (¬ pt1.toList = [] ∧ pt1.toList.isEmpty = false ∧ pt = pt1))
    (PA : Hid (∀ w, Calls Tryd.prog 57 #[.string wh] w fun e w' => ∃ p l k, e = .returned (.tuple #[.slice p l k, .bool ok1]) ∧ Nrm w' (.slice p l k) n1 16 ∧ Below w.heap.size w w'))
    (PB : Hid (∀ w, Calls Tryd.prog 57 #[.string pt] w fun e w' => ∃ p l k, e = .returned (.tuple #[.slice p l k, .bool ok2]) ∧ Nrm w' (.slice p l k) n2 16 ∧ Below w.heap.size w w'))
    (MU : Hid (∀ va vb w, Nrm w va n1 16 → Num w vb p 61 → Calls Tryd.prog 40 #[va, vb] w fun e w' => ∃ v', e = .returned v' ∧ Nrm w' v' x 77 ∧ Below w.heap.size w w'))
    (AD : Hid (∀ va vb w, Nrm w va x 77 → Nrm w vb n2 16 → Calls Tryd.prog 58 #[va, vb] w fun e w' => ∃ v', e = .returned v' ∧ Nrm w' v' n 78 ∧ Below w.heap.size w w'))
    (TX : Hid (∀ v w, Nrm w v n 78 → Calls Tryd.prog 30 #[v, .int .i64 z] w fun e w' => e = .returned (.string t) ∧ Below w.heap.size w w'))
    (ht : (t.toList == s.toList) = okt) :
    Calls Tryd.prog 31 #[.string s, .int .i64 z] w (FP (ok1 && ok2 && okt) n w) := by
  have ht2 : (s.toList == t.toList) = okt := by rw [← ht]; exact Bool.eq_iff_iff.2 (by rw [beq_iff_eq, beq_iff_eq]; exact eq_comm)
  rcases hpt with ⟨h1, h2, rfl⟩ | ⟨h1, h2, rfl⟩
  all_goals
    cases ok1
    · go_enter Tryd.func31, Tryd.ntmps31
      go_wp2_with (first
        | (go_at_call 38; ((with_reducible refine (PW.out _).mono ?_); rintro e w1 ⟨v1, rfl, hv1, hb1⟩))
        | (go_at_call 55; ((with_reducible refine (CU.out _).mono ?_); rintro e w2 ⟨rfl, hb2⟩; have hB2 := bel2' hb1 hb2; have hp2 := hv1.keep hb2))
        | (go_at_call 56; ((with_reducible refine (TL.out _).mono ?_); rintro e w3 ⟨rfl, hb3⟩; have hB3 := bel2' hB2 hb3; have hp3 := hp2.keep hb3))
        | (go_at_call 57; ((with_reducible refine (PA.out _).mono ?_); rintro e w4 ⟨p4, l4, k4, rfl, hv4, hb4⟩; have hB4 := bel2' hB3 hb4; have hp4 := hp3.keep hb4))
        | (go_at_call 57; ((with_reducible refine (PB.out _).mono ?_); rintro e w5 ⟨p5, l5, k5, rfl, hv5, hb5⟩; have hB5 := bel2' hB4 hb5; have hp5 := hp4.keep hb5; have hv45 := hv4.keep hb5))
        | (go_at_call 40; ((with_reducible refine (MU.out _ _ _ hv45 hp5).mono ?_); rintro e w6 ⟨v6, rfl, hv6, hb6⟩; have hB6 := bel2' hB5 hb6; have hv56 := hv5.keep hb6))
        | (go_at_call 58; ((with_reducible refine (AD.out _ _ _ hv6 hv56).mono ?_); rintro e w7 ⟨v7, rfl, hv7, hb7⟩; have hB7 := bel2' hB6 hb7))
        | (go_at_call 30; ((with_reducible refine (TX.out _ _ hv7).mono ?_); rintro e w8 ⟨rfl, hb8⟩; have hB8 := bel2' hB7 hb8; have hv8 := hv7.keep hb8)))
      go_ret2
      exact FP.no rfl rfl hB7
    cases ok2
    · go_enter Tryd.func31, Tryd.ntmps31
      go_wp2_with (first
        | (go_at_call 38; ((with_reducible refine (PW.out _).mono ?_); rintro e w1 ⟨v1, rfl, hv1, hb1⟩))
        | (go_at_call 55; ((with_reducible refine (CU.out _).mono ?_); rintro e w2 ⟨rfl, hb2⟩; have hB2 := bel2' hb1 hb2; have hp2 := hv1.keep hb2))
        | (go_at_call 56; ((with_reducible refine (TL.out _).mono ?_); rintro e w3 ⟨rfl, hb3⟩; have hB3 := bel2' hB2 hb3; have hp3 := hp2.keep hb3))
        | (go_at_call 57; ((with_reducible refine (PA.out _).mono ?_); rintro e w4 ⟨p4, l4, k4, rfl, hv4, hb4⟩; have hB4 := bel2' hB3 hb4; have hp4 := hp3.keep hb4))
        | (go_at_call 57; ((with_reducible refine (PB.out _).mono ?_); rintro e w5 ⟨p5, l5, k5, rfl, hv5, hb5⟩; have hB5 := bel2' hB4 hb5; have hp5 := hp4.keep hb5; have hv45 := hv4.keep hb5))
        | (go_at_call 40; ((with_reducible refine (MU.out _ _ _ hv45 hp5).mono ?_); rintro e w6 ⟨v6, rfl, hv6, hb6⟩; have hB6 := bel2' hB5 hb6; have hv56 := hv5.keep hb6))
        | (go_at_call 58; ((with_reducible refine (AD.out _ _ _ hv6 hv56).mono ?_); rintro e w7 ⟨v7, rfl, hv7, hb7⟩; have hB7 := bel2' hB6 hb7))
        | (go_at_call 30; ((with_reducible refine (TX.out _ _ hv7).mono ?_); rintro e w8 ⟨rfl, hb8⟩; have hB8 := bel2' hB7 hb8; have hv8 := hv7.keep hb8)))
      go_ret2
      exact FP.no rfl rfl hB7
    rcases okt with _ | _
    · go_enter Tryd.func31, Tryd.ntmps31
      go_wp2_with (first
        | (go_at_call 38; ((with_reducible refine (PW.out _).mono ?_); rintro e w1 ⟨v1, rfl, hv1, hb1⟩))
        | (go_at_call 55; ((with_reducible refine (CU.out _).mono ?_); rintro e w2 ⟨rfl, hb2⟩; have hB2 := bel2' hb1 hb2; have hp2 := hv1.keep hb2))
        | (go_at_call 56; ((with_reducible refine (TL.out _).mono ?_); rintro e w3 ⟨rfl, hb3⟩; have hB3 := bel2' hB2 hb3; have hp3 := hp2.keep hb3))
        | (go_at_call 57; ((with_reducible refine (PA.out _).mono ?_); rintro e w4 ⟨p4, l4, k4, rfl, hv4, hb4⟩; have hB4 := bel2' hB3 hb4; have hp4 := hp3.keep hb4))
        | (go_at_call 57; ((with_reducible refine (PB.out _).mono ?_); rintro e w5 ⟨p5, l5, k5, rfl, hv5, hb5⟩; have hB5 := bel2' hB4 hb5; have hp5 := hp4.keep hb5; have hv45 := hv4.keep hb5))
        | (go_at_call 40; ((with_reducible refine (MU.out _ _ _ hv45 hp5).mono ?_); rintro e w6 ⟨v6, rfl, hv6, hb6⟩; have hB6 := bel2' hB5 hb6; have hv56 := hv5.keep hb6))
        | (go_at_call 58; ((with_reducible refine (AD.out _ _ _ hv6 hv56).mono ?_); rintro e w7 ⟨v7, rfl, hv7, hb7⟩; have hB7 := bel2' hB6 hb7))
        | (go_at_call 30; ((with_reducible refine (TX.out _ _ hv7).mono ?_); rintro e w8 ⟨rfl, hb8⟩; have hB8 := bel2' hB7 hb8; have hv8 := hv7.keep hb8)))
      go_ret2
      exact FP.no rfl rfl hB8
    · obtain rfl : t = s := by rw [beq_iff_eq, ByteArray.toList_eq, ByteArray.toList_eq] at ht; exact ByteArray.ext (Array.toList_inj.1 ht)
      go_enter Tryd.func31, Tryd.ntmps31
      go_wp2_with (first
        | (go_at_call 38; ((with_reducible refine (PW.out _).mono ?_); rintro e w1 ⟨v1, rfl, hv1, hb1⟩))
        | (go_at_call 55; ((with_reducible refine (CU.out _).mono ?_); rintro e w2 ⟨rfl, hb2⟩; have hB2 := bel2' hb1 hb2; have hp2 := hv1.keep hb2))
        | (go_at_call 56; ((with_reducible refine (TL.out _).mono ?_); rintro e w3 ⟨rfl, hb3⟩; have hB3 := bel2' hB2 hb3; have hp3 := hp2.keep hb3))
        | (go_at_call 57; ((with_reducible refine (PA.out _).mono ?_); rintro e w4 ⟨p4, l4, k4, rfl, hv4, hb4⟩; have hB4 := bel2' hB3 hb4; have hp4 := hp3.keep hb4))
        | (go_at_call 57; ((with_reducible refine (PB.out _).mono ?_); rintro e w5 ⟨p5, l5, k5, rfl, hv5, hb5⟩; have hB5 := bel2' hB4 hb5; have hp5 := hp4.keep hb5; have hv45 := hv4.keep hb5))
        | (go_at_call 40; ((with_reducible refine (MU.out _ _ _ hv45 hp5).mono ?_); rintro e w6 ⟨v6, rfl, hv6, hb6⟩; have hB6 := bel2' hB5 hb6; have hv56 := hv5.keep hb6))
        | (go_at_call 58; ((with_reducible refine (AD.out _ _ _ hv6 hv56).mono ?_); rintro e w7 ⟨v7, rfl, hv7, hb7⟩; have hB7 := bel2' hB6 hb7))
        | (go_at_call 30; ((with_reducible refine (TX.out _ _ hv7).mono ?_); rintro e w8 ⟨rfl, hb8⟩; have hB8 := bel2' hB7 hb8; have hv8 := hv7.keep hb8)))
      go_ret2
      exact FP.yes rfl hv8 hB8

theorem cutP_le (l : List UInt8) : (cutP l).1.length ≤ l.length ∧ (cutP l).2.1.length ≤ l.length := by
  unfold cutP
  split
  · exact ⟨Nat.le_refl _, Nat.zero_le _⟩
  · exact ⟨by simp only [List.length_take]; omega, by simp only [List.length_drop]; omega⟩
theorem dropB_len (c : UInt8) (l : List UInt8) : (dropB c l).length ≤ l.length := by
  unfold dropB
  exact (List.dropWhile_sublist _).length_le

theorem fparse_num (s : ByteArray) (d : Nat) (z : Int) (w : World) (hs : s.size ≤ 90) (hz : z = (d : Int)) (hd : d ≤ 6) :
    Calls Tryd.prog 31 #[.string s, .int .i64 z] w (FP (okF s.data.toList d) (valF s.data.toList d) w) := by
  have hlen := Lib.size_eq s
  obtain ⟨h1, h2⟩ := cutP_le s.data.toList
  have h3 := dropB_len 48 (cutP s.data.toList).2.1
  have h4 : (partF s.data.toList).length ≤ 91 := by
    unfold partF
    split
    · simp
    · omega
  have CU := Lib.hid (fun w => cut_pt s w (by omega))
  have TL := Lib.hid (fun w => tl_any ⟨(cutP s.data.toList).2.1.toArray⟩ w (by rw [Lib.size_eq]; show (cutP s.data.toList).2.1.length ≤ _; omega))
  have hpt : ((⟨(dropB 48 (cutP s.data.toList).2.1).toArray⟩ : ByteArray).toList = [] ∧ (⟨(dropB 48 (cutP s.data.toList).2.1).toArray⟩ : ByteArray).toList.isEmpty = true ∧ (⟨(partF s.data.toList).toArray⟩ : ByteArray) = ⟨#[48]⟩) ∨ (¬ (⟨(dropB 48 (cutP s.data.toList).2.1).toArray⟩ : ByteArray).toList = [] ∧ (⟨(dropB 48 (cutP s.data.toList).2.1).toArray⟩ : ByteArray).toList.isEmpty = false ∧ (⟨(partF s.data.toList).toArray⟩ : ByteArray) = ⟨(dropB 48 (cutP s.data.toList).2.1).toArray⟩) := by
    rw [ByteArray.toList_eq]
    unfold partF
    by_cases h : dropB 48 (cutP s.data.toList).2.1 = []
    · left
      rw [if_pos h]
      exact ⟨h, by simp [h], rfl⟩
    · right
      rw [if_neg h]
      exact ⟨h, by simp [h], rfl⟩
  have PU : ∀ (l : List UInt8), l.length ≤ 100 → ∀ w, Calls Tryd.prog 57 #[.string ⟨l.toArray⟩] w fun e w' => ∃ p n k, e = .returned (.tuple #[.slice p n k, .bool (numB l)]) ∧ Nrm w' (.slice p n k) (if numB l then pvF l else 0) 16 ∧ Below w.heap.size w w' := fun l hl w => by
    refine (parse_u (s := ⟨l.toArray⟩) (by rw [Lib.size_eq]; exact hl)).mono ?_
    rintro e w' ⟨v', rfl, hv, hb⟩
    obtain ⟨p, n, k, rfl⟩ := hv.shape
    exact ⟨p, n, k, rfl, hv, hb⟩
  obtain ⟨n1, hn1⟩ : ∃ n, (if numB (wholeF s.data.toList) then pvF (wholeF s.data.toList) else 0) = n := ⟨_, rfl⟩
  obtain ⟨n2, hn2⟩ : ∃ n, (if numB (partF s.data.toList) then pvF (partF s.data.toList) else 0) = n := ⟨_, rfl⟩
  have PA := PU (wholeF s.data.toList) (by unfold wholeF; omega)
  have PB := PU (partF s.data.toList) (by omega)
  rw [hn1] at PA
  rw [hn2] at PB
  have := fparse_core (x := n1 * 10 ^ d) (n := n1 * 10 ^ d + n2) (t := ⟨(fixT (n1 * 10 ^ d + n2) d).toArray⟩) w (Lib.hid (fun w => power_in d z w hz hd)) CU TL hpt (Lib.hid PA) (Lib.hid PB)
    (Lib.hid (fun va vb w g1 g2 => mul_num g1.num g2 (by omega) (by omega)))
    (Lib.hid (fun va vb w g1 g2 => add_num g1.num (g2.num.wider (by omega)) (by omega)))
    (Lib.hid (fun v w g => ftext_num g.num (by omega) hz hd)) rfl
  refine this.mono ?_
  rintro e w' ⟨g1, g2⟩
  refine ⟨?_, g2⟩
  have ht : ((⟨(fixT (n1 * 10 ^ d + n2) d).toArray⟩ : ByteArray).toList == s.toList) = (fixT (n1 * 10 ^ d + n2) d == s.data.toList) := by rw [ByteArray.toList_eq, ByteArray.toList_eq]
  rw [ht] at g1
  unfold okF
  by_cases k1 : numB (wholeF s.data.toList) = true
  · by_cases k2 : numB (partF s.data.toList) = true
    · have e1 : n1 * 10 ^ d + n2 = valF s.data.toList d := by
        rw [← hn1, ← hn2, if_pos k1, if_pos k2]; rfl
      rw [e1] at g1
      exact g1
    · rw [Bool.not_eq_true] at k2
      rw [k2] at g1 ⊢
      simpa using g1
  · rw [Bool.not_eq_true] at k1
    rw [k1] at g1 ⊢
    simpa using g1

set_option maxHeartbeats 1000000 in
theorem fparse_out {s : ByteArray} {z : Int} {w : World} (hz : z < 0 ∨ 6 < z) :
    Calls Tryd.prog 31 #[.string s, .int .i64 z] w fun e w' => e = .returned (.tuple #[.slice none 0 0, .bool false]) ∧ Below w.heap.size w w' := by
  have P := Lib.hid (fun w => power_out z w hz)
  clear hz
  go_enter Tryd.func31, Tryd.ntmps31
  go_wp2_with (go_at_call 38; ((with_reducible refine (P.out _).mono ?_); rintro e w1 ⟨rfl, hb1⟩))
  go_ret2
  exact ⟨rfl, hb1⟩

set_option maxHeartbeats 1000000 in
theorem ftext_out {va : Value} {z : Int} {w : World} (hz : z < 0 ∨ 6 < z) :
    Calls Tryd.prog 30 #[va, .int .i64 z] w fun e w' => e = .returned (.string ⟨#[]⟩) ∧ Below w.heap.size w w' := by
  have P := Lib.hid (fun w => power_out z w hz)
  clear hz
  go_enter Tryd.func30, Tryd.ntmps30
  go_wp2_with (go_at_call 38; ((with_reducible refine (P.out _).mono ?_); rintro e w1 ⟨rfl, hb1⟩))
  go_ret
  exact ⟨rfl, hb1⟩

end Go.Proofs.YtaommeapngbgeaaDoor
