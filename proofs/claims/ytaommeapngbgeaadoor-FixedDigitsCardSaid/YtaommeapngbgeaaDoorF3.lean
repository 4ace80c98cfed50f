/- fixed.Text and the reference's Text. -/
import Derived.Test.YtaommeapngbgeaaDoorF2
import Derived.Test.YtaommeapngbgeaaDoorMT
import Derived.Test.YtaommeapngbgeaaDoorR20
import Derived.Lib.Repeat
namespace Go.Proofs.YtaommeapngbgeaaDoor
open Go.RowKit Go.Proofs.Kit Go.Proofs.Nums

theorem rep48 (k : Nat) : Lib.repeatL [48] k = List.replicate k 48 := by
  have := Lib.repeatL_replicate 48 1 k
  rw [Nat.mul_one] at this
  exact this

set_option maxRecDepth 1000000 in
set_option maxHeartbeats 4000000 in
theorem ftext_core {va : Value} {s1 s2 s3 : ByteArray} {z : Int} {q r p K : Nat} (w : World) (h0 : 1 ≤ z) (h6 : z ≤ 6) (hs2 : (s2.size : Int) ≤ z) (hs1 : s1.size ≤ 100000) (hs3 : s3.size ≤ 6)
    (PW : Hid (∀ w, Calls Tryd.prog 38 #[.int .i64 z] w fun e w' => ∃ v, e = .returned (.tuple #[v, .bool true]) ∧ Num w' v p 61 ∧ Below w.heap.size w w'))
    (DV : Hid (∀ vb w', Below w.heap.size w w' → Num w' vb p 61 → Calls Tryd.prog 47 #[va, vb] w' fun e w'' => ∃ vq vr, e = .returned (.tuple #[vq, vr, .bool true]) ∧ Nrm w'' vq q K ∧ Nrm w'' vr r K ∧ Below w'.heap.size w' w''))
    (T1 : Hid (∀ v w, Nrm w v q K → Calls Tryd.prog 53 #[v] w fun e w' => e = .returned (.string s1) ∧ Below w.heap.size w w'))
    (T2 : Hid (∀ v w, Nrm w v r K → Calls Tryd.prog 53 #[v] w fun e w' => e = .returned (.string s2) ∧ Below w.heap.size w w'))
    (RP : Hid (∀ w, Calls Tryd.prog 54 #[.string ⟨#[48]⟩, .int .i64 (z - (s2.size : Int))] w fun e w' => e = .returned (.string s3) ∧ Below w.heap.size w w')) :
    Calls Tryd.prog 30 #[va, .int .i64 z] w fun e w' => e = .returned (.string (s1 ++ ⟨#[46]⟩ ++ s3 ++ s2)) ∧ Below w.heap.size w w' := by
  have hz0 : (z == 0) = false := by rw [beq_eq_false_iff_ne]; omega
  have y1 : ¬ 9223372036854775807 < s1.size + 1 := by omega
  have y2 : ¬ 9223372036854775807 < s1.size + 1 + s3.size := by omega
  have y3 : ¬ 9223372036854775807 < s1.size + 1 + s3.size + s2.size := by omega
  go_enter Tryd.func30, Tryd.ntmps30
  go_wp2_with (first
    | (go_at_call 38; ((with_reducible refine (PW.out _).mono ?_); rintro e w1 ⟨v1, rfl, hv1, hb1⟩))
    | (go_at_call 47; ((with_reducible refine (DV.out _ _ hb1 hv1).mono ?_); rintro e w2 ⟨vq, vr, rfl, hq2, hr2, hb2⟩; have hB2 := bel2' hb1 hb2))
    | (go_at_call 53; ((with_reducible refine (T1.out _ _ hq2).mono ?_); rintro e w3 ⟨rfl, hb3⟩; have hB3 := bel2' hB2 hb3; have hr3 := hr2.keep hb3))
    | (go_at_call 53; ((with_reducible refine (T2.out _ _ hr3).mono ?_); rintro e w4 ⟨rfl, hb4⟩; have hB4 := bel2' hB3 hb4))
    | (go_at_call 54; ((with_reducible refine (RP.out _).mono ?_); rintro e w5 ⟨rfl, hb5⟩; have hB5 := bel2' hB4 hb5)))
  go_ret
  exact ⟨rfl, hB5⟩

set_option maxHeartbeats 4000000 in
theorem ftext_zero {va : Value} {s1 : ByteArray} {q r p K : Nat} (w : World)
    (PW : Hid (∀ w, Calls Tryd.prog 38 #[.int .i64 0] w fun e w' => ∃ v, e = .returned (.tuple #[v, .bool true]) ∧ Num w' v p 61 ∧ Below w.heap.size w w'))
    (DV : Hid (∀ vb w', Below w.heap.size w w' → Num w' vb p 61 → Calls Tryd.prog 47 #[va, vb] w' fun e w'' => ∃ vq vr, e = .returned (.tuple #[vq, vr, .bool true]) ∧ Nrm w'' vq q K ∧ Nrm w'' vr r K ∧ Below w'.heap.size w' w''))
    (T1 : Hid (∀ v w, Nrm w v q K → Calls Tryd.prog 53 #[v] w fun e w' => e = .returned (.string s1) ∧ Below w.heap.size w w')) :
    Calls Tryd.prog 30 #[va, .int .i64 0] w fun e w' => e = .returned (.string s1) ∧ Below w.heap.size w w' := by
  go_enter Tryd.func30, Tryd.ntmps30
  go_wp2_with (first
    | (go_at_call 38; ((with_reducible refine (PW.out _).mono ?_); rintro e w1 ⟨v1, rfl, hv1, hb1⟩))
    | (go_at_call 47; ((with_reducible refine (DV.out _ _ hb1 hv1).mono ?_); rintro e w2 ⟨vq, vr, rfl, hq2, hr2, hb2⟩; have hB2 := bel2' hb1 hb2))
    | (go_at_call 53; ((with_reducible refine (T1.out _ _ hq2).mono ?_); rintro e w3 ⟨rfl, hb3⟩; have hB3 := bel2' hB2 hb3)))
  go_ret
  exact ⟨rfl, hB3⟩

theorem ftext_num {va : Value} {n d L : Nat} {z : Int} {w : World} (ha : Num w va n L) (hL : L ≤ 900) (hz : z = (d : Int)) (hd : d ≤ 6) :
    Calls Tryd.prog 30 #[va, .int .i64 z] w fun e w' => e = .returned (.string ⟨(fixT n d).toArray⟩) ∧ Below w.heap.size w w' := by
  have hp : 0 < 10 ^ d := Nat.pow_pos (by omega)
  have PW := Lib.hid (fun w => power_in d z w hz hd)
  have DV : Hid (∀ vb w', Below w.heap.size w w' → Num w' vb (10 ^ d) 61 → Calls Tryd.prog 47 #[va, vb] w' fun e w'' => ∃ vq vr, e = .returned (.tuple #[vq, vr, .bool true]) ∧ Nrm w'' vq (n / 10 ^ d) (max L 61) ∧ Nrm w'' vr (n % 10 ^ d) (max L 61) ∧ Below w'.heap.size w' w'') := Lib.hid (fun vb w' h h' => (div_num (ha.keep h) h' (by omega) (by omega) hp).mono (by
    rintro e w'' ⟨vq, vr, rfl, h1, h2, h3⟩
    exact ⟨_, _, rfl, h1.wider (by omega), h2.wider (by omega), h3⟩))
  have T1 : Hid (∀ v w, Nrm w v (n / 10 ^ d) (max L 61) → Calls Tryd.prog 53 #[v] w fun e w' => e = .returned (.string ⟨(decB (n / 10 ^ d)).toArray⟩) ∧ Below w.heap.size w w') := Lib.hid (fun v w h => text_num h.num (by omega))
  have T2 : Hid (∀ v w, Nrm w v (n % 10 ^ d) (max L 61) → Calls Tryd.prog 53 #[v] w fun e w' => e = .returned (.string ⟨(decB (n % 10 ^ d)).toArray⟩) ∧ Below w.heap.size w w') := Lib.hid (fun v w h => text_num h.num (by omega))
  by_cases h0 : d = 0
  · subst h0
    obtain rfl : z = 0 := by omega
    refine (ftext_zero w PW DV T1).mono ?_
    rintro e w' ⟨rfl, hb⟩
    refine ⟨?_, hb⟩
    unfold fixT
    rw [if_pos rfl, Nat.pow_zero, Nat.div_one]
  · have hm : n % 10 ^ d < 10 ^ d := Nat.mod_lt _ hp
    have hl := decB_le_dig hm (by omega)
    have z2 : (⟨(decB (n % 10 ^ d)).toArray⟩ : ByteArray).size = (decB (n % 10 ^ d)).length := Lib.size_eq _
    have z1 : (⟨(decB (n / 10 ^ d)).toArray⟩ : ByteArray).size ≤ 100000 := by
      rw [Lib.size_eq]
      show (decB (n / 10 ^ d)).length ≤ _
      refine Nat.le_trans (decB_le _ 32000 (Nat.le_trans (bits_len_le' (Nat.div_le_self n _)) (Nat.le_trans (num_bits ha) (by omega))) (by omega)) (by omega)
    have RP : Hid (∀ w, Calls Tryd.prog 54 #[.string ⟨#[48]⟩, .int .i64 (z - ((⟨(decB (n % 10 ^ d)).toArray⟩ : ByteArray).size : Int))] w fun e w' => e = .returned (.string ⟨(List.replicate (d - (decB (n % 10 ^ d)).length) 48).toArray⟩) ∧ Below w.heap.size w w') := Lib.hid (fun w => by
      have := Tryd.strings_Repeat ⟨#[48]⟩ (d - (decB (n % 10 ^ d)).length) w (by omega) (by
        have : (⟨#[48]⟩ : ByteArray).size = 1 := rfl
        rw [this]; omega)
      rw [show (((d - (decB (n % 10 ^ d)).length : Nat)) : Int) = z - ((⟨(decB (n % 10 ^ d)).toArray⟩ : ByteArray).size : Int) by rw [z2]; omega] at this
      have e : Lib.repeatL (⟨#[48]⟩ : ByteArray).data.toList (d - (decB (n % 10 ^ d)).length) = List.replicate (d - (decB (n % 10 ^ d)).length) 48 := rep48 _
      rw [e] at this
      exact this)
    refine (ftext_core w (by omega) (by omega) (by rw [z2]; omega) z1 (by rw [Lib.size_eq]; simp; omega) PW DV T1 T2 RP).mono ?_
    rintro e w' ⟨rfl, hb⟩
    refine ⟨?_, hb⟩
    unfold fixT fracT
    rw [if_neg h0]
    have e46 : (⟨#[46]⟩ : ByteArray) = ⟨([46] : List UInt8).toArray⟩ := rfl
    rw [e46]
    simp only [bs_app]
    simp

/-- The reference's loop fills up with zeros. -/
def PadTo (n d : Nat) (t : ByteArray) : Prop := ∃ j, t.data.toList = List.replicate j 48 ++ decB n ∧ (j = 0 ∨ t.size ≤ d + 1)
theorem PadTo.start (n d : Nat) : PadTo n d ⟨(decB n).toArray⟩ := ⟨0, rfl, .inl rfl⟩
theorem PadTo.step {n d : Nat} {t : ByteArray} (h : PadTo n d t) (ht : t.size ≤ d) : PadTo n d (⟨#[48]⟩ ++ t) := by
  obtain ⟨j, h1, _⟩ := h
  refine ⟨j + 1, ?_, .inr ?_⟩
  · rw [ByteArray.data_append]
    simp [h1, List.replicate_succ]
  · rw [ByteArray.size_append]
    have : (⟨#[48]⟩ : ByteArray).size = 1 := rfl
    omega
theorem PadTo.done {n d : Nat} {t : ByteArray} (h : PadTo n d t) (ht : d < t.size) : t.data.toList = List.replicate (d + 1 - (decB n).length) 48 ++ decB n := by
  obtain ⟨j, h1, h2⟩ := h
  have h3 := congrArg List.length h1
  rw [List.length_append, List.length_replicate, ← Lib.size_eq] at h3
  rw [h1]
  congr 2
  rcases h2 with h2 | h2 <;> omega

set_option maxRecDepth 1000000 in
set_option maxHeartbeats 4000000 in
theorem rftext_n {v : Value} {n d : Nat} {z : Int} {w : World} (ha : BitAt w v (bitsN n)) (hn : (bitsN n).length ≤ 30000) (hz : z = (d : Int)) (hd : d ≤ 6) :
    Calls Tryd.prog 32 #[v, .int .i64 z] w fun e w' => e = .returned (.string ⟨(fixT n d).toArray⟩) ∧ Below w.heap.size w w' := by
  have DG := Lib.hid (digits_n v n w ha (by omega))
  have hl : (⟨(decB n).toArray⟩ : ByteArray).size ≤ 30001 := by
    rw [Lib.size_eq]
    show (decB n).length ≤ _
    exact Nat.le_trans (decB_le n 30000 hn (by omega)) (by omega)
  have PD := Lib.hid (PadTo.start n d)
  have HF : Hid (∀ t : ByteArray, PadTo n d t → d < t.size → (d = 0 → t = ⟨(fixT n d).toArray⟩) ∧ (1 ≤ d → t.extract 0 (t.size - d) ++ ⟨#[46]⟩ ++ t.extract (t.size - d) t.size = ⟨(fixT n d).toArray⟩)) := Lib.hid (fun t h ht => by
    have hdn := h.done ht
    have hts := Lib.size_eq t
    refine ⟨fun h0 => ?_, fun h1 => ?_⟩
    · subst h0
      have := decB_len n
      rw [show 0 + 1 - (decB n).length = 0 by omega, List.replicate_zero, List.nil_append] at hdn
      have e := bs_of hdn
      rw [e]; rfl
    · have e1 : t.extract 0 (t.size - d) = ⟨(t.data.toList.take (t.size - d)).toArray⟩ := bs_of (ext_upto t _)
      have e2 : t.extract (t.size - d) t.size = ⟨(t.data.toList.drop (t.size - d)).toArray⟩ := bs_of (ext_drop t _)
      have e46 : (⟨#[46]⟩ : ByteArray) = ⟨([46] : List UInt8).toArray⟩ := rfl
      rw [e1, e2, e46]
      simp only [bs_app]
      rw [hts, hdn, fix_ref n d h1]
      simp)
  obtain ⟨s0, hs0⟩ : ∃ s : ByteArray, (⟨(decB n).toArray⟩ : ByteArray) = s := ⟨_, rfl⟩
  rw [hs0] at DG hl PD
  obtain ⟨R, hR⟩ : ∃ R : ByteArray, (⟨(fixT n d).toArray⟩ : ByteArray) = R := ⟨_, rfl⟩
  rw [hR] at HF ⊢
  clear hs0 hR ha hn
  have h6 : z ≤ 6 := by omega
  have h60 : 0 ≤ z := by omega
  have HZ := Lib.hid hz
  clear hz
  go_enter Tryd.func32, Tryd.ntmps32
  go_wp2_with (go_at_call 59; ((with_reducible refine (DG.out).mono ?_); rintro e w1 ⟨rfl, hb1⟩))
  go_loopw [5] (fun sv wr => ∃ t : ByteArray, sv = .string t ∧ t.size ≤ 30010 ∧ Hid (PadTo n d t) ∧ Below w.heap.size w wr) (fun sv _ => match sv with | .string t => d + 1 - t.size | _ => 0)
  case atStart => exact ⟨s0, rfl, by omega, PD, hb1⟩
  case round =>
    obtain ⟨t, rfl, ht, hP, hbel⟩ := hrel
    by_cases hlt : t.size ≤ d
    · have hc : decide ((t.size : Int) ≤ z) = true := decide_eq_true (by have := HZ.out; omega)
      have hc2 : (t.size : Int) ≤ z := by have := HZ.out; omega
      have y1 : ¬ 9223372036854775807 < 1 + t.size := by omega
      have PN := Lib.hid (hP.out.step hlt)
      have hsz : (⟨#[48]⟩ ++ t : ByteArray).size = 1 + t.size := by rw [ByteArray.size_append]; rfl
      have HSZ := Lib.hid hsz
      clear hsz
      go_wp2_with fail
      go_roundw
      case rel => exact ⟨_, rfl, by have := HSZ.out; omega, PN, hbel⟩
      case measure => have := HSZ.out; simp only; omega
    · have hc : decide ((t.size : Int) ≤ z) = false := decide_eq_false (by have := HZ.out; omega)
      have hc2 : ¬ (t.size : Int) ≤ z := by have := HZ.out; omega
      have hF := Lib.hid (HF.out t hP.out (by omega))
      by_cases h0 : d = 0
      · have hz0 : (z == 0) = true := by rw [beq_iff_eq]; have := HZ.out; omega
        have e := Lib.hid (hF.out.1 h0)
        clear h0
        go_wp2_with fail
        go_ret
        exact ⟨by rw [← e.out]; rfl, hbel⟩
      · have hz0 : (z == 0) = false := by rw [beq_eq_false_iff_ne]; have := HZ.out; omega
        have e := Lib.hid (hF.out.2 (by omega))
        obtain ⟨i, hi⟩ : ∃ i, t.size - d = i := ⟨_, rfl⟩
        rw [hi] at e
        have hit : (t.size : Int) - z = (i : Int) := by have := HZ.out; omega
        have c1 : (0 : Int) ≤ (i : Int) := by omega
        have c2 : (i : Int) ≤ (t.size : Int) := by omega
        have n1 : i ≤ t.size := by omega
        obtain ⟨a, ha⟩ : ∃ a, t.extract 0 i = a := ⟨_, rfl⟩
        obtain ⟨b, hb⟩ : ∃ b, t.extract i t.size = b := ⟨_, rfl⟩
        have la : a.size ≤ 30010 := by rw [← ha, ByteArray.size_extract]; omega
        have lb : b.size ≤ 30010 := by rw [← hb, ByteArray.size_extract]; omega
        rw [ha, hb] at e
        have y1 : ¬ 9223372036854775807 < a.size + 1 := by omega
        have y2 : ¬ 9223372036854775807 < a.size + 1 + b.size := by omega
        clear hF hlt hi
        go_wp2_with fail
        go_region
        all_goals
          go_wp2_with fail
          go_ret
          exact ⟨by rw [← e.out]; rfl, by first | exact hbel | exact hbel.drew⟩

end Go.Proofs.YtaommeapngbgeaaDoor
