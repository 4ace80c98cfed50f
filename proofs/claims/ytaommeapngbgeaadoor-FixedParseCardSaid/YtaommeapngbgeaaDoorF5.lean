/- The reference's Read. -/
import Derived.Test.YtaommeapngbgeaaDoorF4
import Derived.Test.YtaommeapngbgeaaDoorM26
namespace Go.Proofs.YtaommeapngbgeaaDoor
open Go.RowKit Go.Proofs.Kit Go.Proofs.Nums

theorem bs_push (t : ByteArray) (s : ByteArray) (i : Nat) (h : i < s.size) : (t ++ s.extract i (i + 1)).data.toList = t.data.toList ++ [s[i]'h] := by
  rw [ByteArray.data_append, Array.toList_append, Lib.extract_data]
  congr 1
  have hl : i < s.data.toList.length := by rw [← Lib.size_eq]; exact h
  rw [show i + 1 - i = 1 by omega, List.drop_eq_getElem_cons hl, List.take_succ_cons, List.take_zero]
  rfl
theorem bs_get (s : ByteArray) (i : Nat) (h : i < s.size) (h' : i < s.data.toList.length) : s[i]'h = s.data.toList[i]'h' := rfl

/-- The first i bytes without points. -/
def NoPt (s : ByteArray) (i : Nat) (t : ByteArray) : Prop := t.data.toList = (s.data.toList.take i).filter (· != 46)
theorem NoPt.start (s : ByteArray) : NoPt s 0 ⟨#[]⟩ := rfl
theorem NoPt.skip {s t : ByteArray} {i : Nat} (h : NoPt s i t) (hi : i < s.size) (hx : s[i] = 46) : NoPt s (i + 1) t := by
  have hl : i < s.data.toList.length := by rw [← Lib.size_eq]; exact hi
  unfold NoPt at *
  rw [List.take_succ_eq_append_getElem hl, List.filter_append, h, ← bs_get s i hi hl, hx]
  simp
theorem NoPt.push {s t : ByteArray} {i : Nat} (h : NoPt s i t) (hi : i < s.size) (hx : s[i] ≠ 46) : NoPt s (i + 1) (t ++ s.extract i (i + 1)) := by
  have hl : i < s.data.toList.length := by rw [← Lib.size_eq]; exact hi
  unfold NoPt at *
  rw [List.take_succ_eq_append_getElem hl, List.filter_append, bs_push t s i hi, h, ← bs_get s i hi hl]
  rw [List.filter_cons_of_pos (by simpa using hx)]
  simp
theorem NoPt.len {s t : ByteArray} {i : Nat} (h : NoPt s i t) : t.size ≤ s.size := by
  rw [Lib.size_eq, Lib.size_eq, h]
  refine Nat.le_trans (List.length_filter_le _ _) ?_
  rw [List.length_take]; omega

/-- What is left of the zeros ahead. -/
def StripTo (s : ByteArray) (t : ByteArray) : Prop := ∃ f, t.size ≤ f + 1 ∧ stripZ f t.data.toList = flatF s.data.toList
theorem StripTo.start {s t : ByteArray} (h : NoPt s s.size t) : StripTo s t := by
  have e : t.data.toList = s.data.toList.filter (· != 46) := by
    rw [h, List.take_of_length_le (by rw [Lib.size_eq]; exact Nat.le_refl _)]
  refine ⟨s.data.toList.length, ?_, by rw [e]; rfl⟩
  have := h.len
  rw [← Lib.size_eq]; omega
theorem StripTo.step {s t : ByteArray} (h : StripTo s t) (h1 : 1 < t.size) (hx : t[0] = 48) : StripTo s (t.extract 1 t.size) := by
  obtain ⟨f, h2, h3⟩ := h
  have hl := Lib.size_eq t
  obtain ⟨g, rfl⟩ : ∃ g, f = g + 1 := ⟨f - 1, by omega⟩
  refine ⟨g, ?_, ?_⟩
  · rw [ByteArray.size_extract]; omega
  · rw [ext_drop, ← h3]
    conv => rhs; unfold stripZ
    rw [if_pos]
    refine ⟨by omega, ?_⟩
    rw [bat_lt (by omega)]
    exact hx
theorem StripTo.done {s t : ByteArray} (h : StripTo s t) (hx : t.size ≤ 1 ∨ ∃ h1 : 0 < t.size, t[0]'h1 ≠ 48) : t.data.toList = flatF s.data.toList := by
  obtain ⟨f, h2, h3⟩ := h
  have hl := Lib.size_eq t
  rw [← h3]
  cases f with
  | zero => rfl
  | succ f =>
    unfold stripZ
    rw [if_neg]
    rintro ⟨g1, g2⟩
    rcases hx with hx | ⟨h1, hx⟩
    · omega
    · rw [bat_lt (by omega)] at g2
      exact hx g2

/-- What the reference's Read hands back. -/
def FR (ok : Bool) (n : Nat) (w : World) (e : Ending) (w' : World) : Prop :=
  (∃ v, e = .returned (.tuple #[v, .bool ok]) ∧ (ok = true → BitAt w' v (bitsN n))) ∧ Below w.heap.size w w'

set_option maxRecDepth 1000000 in
set_option maxHeartbeats 4000000 in
theorem rfread_core {s t0 t : ByteArray} {ok1 okt : Bool} {n : Nat} {z : Int} (w : World) (hs : s.size ≤ 90) (hflat : Hid (∀ u : ByteArray, u.data.toList = flatF s.data.toList → u = t0))
    (RD : Hid (∀ w, Calls Tryd.prog 60 #[.string t0] w fun e w' => ∃ p l k, e = .returned (.tuple #[.slice p l k, .bool ok1]) ∧ BitAt w' (.slice p l k) (bitsN n) ∧ Below w.heap.size w w'))
    (TX : Hid (∀ v w, BitAt w v (bitsN n) → Calls Tryd.prog 32 #[v, .int .i64 z] w fun e w' => e = .returned (.string t) ∧ Below w.heap.size w w'))
    (ht : (t.toList == s.toList) = okt) :
    Calls Tryd.prog 33 #[.string s, .int .i64 z] w (FR (ok1 && okt) n w) := by
  have ht2 : (s.toList == t.toList) = okt := by rw [← ht]; exact Bool.eq_iff_iff.2 (by rw [beq_iff_eq, beq_iff_eq]; exact eq_comm)
  go_enter Tryd.func33, Tryd.ntmps33
  go_wp2_with fail
  go_loopw [6, 7] (fun tv iv wr => ∃ u : ByteArray, ∃ k : Nat, k ≤ s.size ∧ tv = .string u ∧ iv = .int .i64 k ∧ u.size ≤ s.size ∧ Hid (NoPt s k u) ∧ Below w.heap.size w wr) (fun _ iv _ => s.size - (intOf iv).toNat)
  case atStart => exact ⟨⟨#[]⟩, 0, by omega, rfl, rfl, Nat.zero_le _, Lib.hid (NoPt.start s), Below.refl _ _⟩
  case round =>
    obtain ⟨u, k, hk, rfl, rfl, hu, hP, hbel⟩ := hrel
    by_cases hlt : k < s.size
    · obtain ⟨x, hx⟩ : ∃ x, s[k] = x := ⟨_, rfl⟩
      have HX := Lib.hid hx
      by_cases h46 : x = 46
      · have hb : ((x.toNat : Int) == 46) = true := by rw [h46]; rfl
        have PN := Lib.hid (hP.out.skip hlt (by rw [HX.out]; exact h46))
        clear h46
        go_wp2_with fail
        go_roundw
        case rel => exact ⟨u, k + 1, by omega, rfl, by go_num, hu, PN, hbel⟩
        case measure => simp [intOf] <;> omega
      · have hb : ((x.toNat : Int) == 46) = false := by rw [beq_eq_false_iff_ne]; intro h'; apply h46; exact UInt8.toNat_inj.1 (by have : (46 : UInt8).toNat = 46 := rfl; omega)
        have PN := Lib.hid (hP.out.push hlt (by rw [HX.out]; exact h46))
        have hs1 : (s.extract k (k + 1)).size = 1 := by rw [ByteArray.size_extract]; omega
        have hs2 : (u ++ s.extract k (k + 1)).size ≤ s.size := PN.out.len
        have HS2 := Lib.hid hs2
        have y1 : ¬ 9223372036854775807 < u.size + 1 := by omega
        have c1 : (k : Int) ≤ (s.size : Int) := by omega
        have c2 : (k : Int) + 1 ≤ (s.size : Int) := by omega
        clear h46 hs2
        go_wp2_with fail
        go_roundw
        case rel => exact ⟨_, k + 1, by omega, rfl, by go_num, HS2.out, PN, hbel⟩
        case measure => simp [intOf] <;> omega
    · obtain rfl : k = s.size := by omega
      have ST := Lib.hid (StripTo.start hP.out)
      clear hP
      go_wp2_with fail
      go_loopw [6] (fun tv wr => ∃ u : ByteArray, tv = .string u ∧ u.size ≤ s.size ∧ Hid (StripTo s u) ∧ Below w.heap.size w wr) (fun tv _ => match tv with | .string u => u.size | _ => 0)
      case atStart => exact ⟨u, rfl, hu, ST, hbel⟩
      case round =>
        obtain ⟨u2, rfl, hu2, hS, hbel2⟩ := hrel
        have fin : (u2.size ≤ 1 ∨ ∃ h1 : 0 < u2.size, u2[0]'h1 ≠ 48) → u2 = t0 := fun h => hflat.out u2 (hS.out.done h)
        have FIN := Lib.hid fin
        clear fin
        by_cases h1 : 1 < u2.size
        · have h0 : 0 < u2.size := by omega
          obtain ⟨x, hx⟩ : ∃ x, u2[0] = x := ⟨_, rfl⟩
          have HX := Lib.hid hx
          by_cases h48 : x = 48
          · have hb : ((x.toNat : Int) == 48) = true := by rw [h48]; rfl
            have PN := Lib.hid (hS.out.step h1 (by rw [HX.out]; exact h48))
            have hsz : (u2.extract 1 u2.size).size = u2.size - 1 := by rw [ByteArray.size_extract]; omega
            have HSZ := Lib.hid hsz
            clear h48 hsz
            go_wp2_with fail
            go_roundw
            case rel => exact ⟨_, rfl, by have := HSZ.out; omega, PN, hbel2⟩
            case measure => have := HSZ.out; simp only; omega
          · have hb : ((x.toNat : Int) == 48) = false := by rw [beq_eq_false_iff_ne]; intro h'; apply h48; exact UInt8.toNat_inj.1 (by have : (48 : UInt8).toNat = 48 := rfl; omega)
            have e : u2 = t0 := FIN.out (.inr ⟨h0, by rw [HX.out]; exact h48⟩)
            have RD2 := RD
            rw [← e] at RD2
            clear h48 e
            cases ok1
            · go_wp2_with (first
                | (go_at_call 60; ((with_reducible refine (RD2.out _).mono ?_); rintro e w3 ⟨p3, l3, k3, rfl, hv3, hb3⟩; have hB3 := bel2' hbel2 hb3)))
              go_ret2
              exact ⟨⟨_, rfl, fun h => by cases h⟩, hB3⟩
            · go_wp2_with (first
                | (go_at_call 60; ((with_reducible refine (RD2.out _).mono ?_); rintro e w3 ⟨p3, l3, k3, rfl, hv3, hb3⟩; have hB3 := bel2' hbel2 hb3))
                | (go_at_call 32; ((with_reducible refine (TX.out _ _ hv3).mono ?_); rintro e w4 ⟨rfl, hb4⟩; have hB4 := bel2' hB3 hb4; have hv4 := hv3.keep hb4)))
              go_ret2
              exact ⟨⟨_, rfl, fun _ => hv4⟩, hB4⟩
        · have e : u2 = t0 := FIN.out (.inl (by omega))
          have RD2 := RD
          rw [← e] at RD2
          clear e
          cases ok1
          · go_wp2_with (first
              | (go_at_call 60; ((with_reducible refine (RD2.out _).mono ?_); rintro e w3 ⟨p3, l3, k3, rfl, hv3, hb3⟩; have hB3 := bel2' hbel2 hb3)))
            go_ret2
            exact ⟨⟨_, rfl, fun h => by cases h⟩, hB3⟩
          · go_wp2_with (first
              | (go_at_call 60; ((with_reducible refine (RD2.out _).mono ?_); rintro e w3 ⟨p3, l3, k3, rfl, hv3, hb3⟩; have hB3 := bel2' hbel2 hb3))
              | (go_at_call 32; ((with_reducible refine (TX.out _ _ hv3).mono ?_); rintro e w4 ⟨rfl, hb4⟩; have hB4 := bel2' hB3 hb4; have hv4 := hv3.keep hb4)))
            go_ret2
            exact ⟨⟨_, rfl, fun _ => hv4⟩, hB4⟩

theorem flat_len (l : List UInt8) : (flatF l).length ≤ l.length := by
  unfold flatF
  exact Nat.le_trans (strip_len _ _) (List.length_filter_le _ _)

theorem rfread_n (s : ByteArray) (d : Nat) (z : Int) (w : World) (hs : s.size ≤ 90) (hz : z = (d : Int)) (hd : d ≤ 6) :
    Calls Tryd.prog 33 #[.string s, .int .i64 z] w (FR (okR s.data.toList d) (pvF (flatF s.data.toList)) w) := by
  have hlen := Lib.size_eq s
  have hfl := flat_len s.data.toList
  have zn := bits_u (l := flatF s.data.toList) (by omega)
  have RD : ∀ w, Calls Tryd.prog 60 #[.string ⟨(flatF s.data.toList).toArray⟩] w fun e w' => ∃ p l k, e = .returned (.tuple #[.slice p l k, .bool (numB (flatF s.data.toList))]) ∧ BitAt w' (.slice p l k) (bitsN (if numB (flatF s.data.toList) then pvF (flatF s.data.toList) else 0)) ∧ Below w.heap.size w w' := fun w => by
    refine (read_u (s := ⟨(flatF s.data.toList).toArray⟩) (by rw [Lib.size_eq]; show (flatF s.data.toList).length ≤ _; omega)).mono ?_
    rintro e w' ⟨p, k, rfl, g1, g2⟩
    exact ⟨_, _, _, rfl, g1, g2⟩
  obtain ⟨n, hn⟩ : ∃ n, (if numB (flatF s.data.toList) then pvF (flatF s.data.toList) else 0) = n := ⟨_, rfl⟩
  rw [hn] at RD zn
  have := rfread_core (s := s) (t0 := ⟨(flatF s.data.toList).toArray⟩) (t := ⟨(fixT n d).toArray⟩) (n := n) w hs (Lib.hid fun u h => bs_of h) (Lib.hid RD) (Lib.hid fun v w g => rftext_n g (by omega) hz hd) rfl
  refine this.mono ?_
  rintro e w' ⟨⟨v, rfl, g1⟩, g2⟩
  have ht : ((⟨(fixT n d).toArray⟩ : ByteArray).toList == s.toList) = (fixT n d == s.data.toList) := by rw [ByteArray.toList_eq, ByteArray.toList_eq]
  rw [ht] at g1 ⊢
  unfold okR
  by_cases k : numB (flatF s.data.toList) = true
  · have e1 : n = pvF (flatF s.data.toList) := by rw [← hn, if_pos k]
    rw [← e1]
    exact ⟨⟨v, rfl, g1⟩, g2⟩
  · rw [Bool.not_eq_true] at k
    rw [k] at g1 ⊢
    exact ⟨⟨v, by simp, fun h => by simp at h⟩, g2⟩

end Go.Proofs.YtaommeapngbgeaaDoor
