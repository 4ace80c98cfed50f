import Derived.Test.YteobjelenfjifaaDoorNu
import Derived.WalkSpells
namespace Go.Proofs.YteobjelenfjifaaDoor
open Go.RowKit Go.Proofs.Kit Go.Proofs.Nums

theorem ext_from (s : ByteArray) (k : Nat) : (s.extract k s.size).data.toList = s.data.toList.drop k := by
  rw [Lib.extract_data, List.take_of_length_le (by rw [List.length_drop, ← Lib.size_eq]; omega)]

theorem str_of {s : ByteArray} {l : List UInt8} (h : s.data.toList = l) : s = ⟨l.toArray⟩ := by
  subst h; cases s; simp

theorem ret_s {s t : ByteArray} (h : s = t) : Ending.returned (.string s) = .returned (.string t) := by rw [h]

/-- Without the bytes c ahead. -/
def dropB (c : UInt8) (l : List UInt8) : List UInt8 := l.dropWhile (· == c)
theorem dropB_yes {c x : UInt8} {l : List UInt8} (h : x = c) : dropB c (x :: l) = dropB c l := by unfold dropB; rw [List.dropWhile_cons]; simp [h]
theorem dropB_no {c x : UInt8} {l : List UInt8} (h : x ≠ c) : dropB c (x :: l) = x :: l := by unfold dropB; rw [List.dropWhile_cons]; simp [h]

set_option maxHeartbeats 4000000 in
theorem tlb_any (s : ByteArray) (c : UInt8) (w : World) (hs : s.size ≤ 1000000) :
    Calls Tryd.prog 57 #[.string s, .int .u8 c.toNat] w fun e w' => e = .returned (.string ⟨(dropB c s.data.toList).toArray⟩) ∧ Below w.heap.size w w' := by
  go_enter Tryd.func57, Tryd.ntmps57
  go_wp2_with fail
  go_loopw [0] (fun i wr => ∃ t : ByteArray, i = .string t ∧ (∃ n, wr = w.drewN n) ∧ t.size ≤ 1000000 ∧ Hid (dropB c t.data.toList = dropB c s.data.toList)) (fun i _ => match i with | .string t => t.size | _ => 0)
  case atStart => exact ⟨s, rfl, ⟨0, rfl⟩, hs, Lib.hid rfl⟩
  case round =>
    obtain ⟨t, rfl, ⟨n, rfl⟩, ht, hP⟩ := hrel
    obtain ⟨l, hl⟩ : ∃ l, t.data.toList = l := ⟨_, rfl⟩
    have hlen : t.size = l.length := by rw [← hl, Lib.size_eq]
    cases l with
    | nil =>
      have h0 : t.size = 0 := hlen
      have hR : Hid (t = ⟨(dropB c s.data.toList).toArray⟩) := Lib.hid (by rw [← hP.out, hl]; exact str_of hl)
      go_wp2_with fail
      go_ret
      exact ⟨ret_s hR.out, below_drewN (Below.refl _ _) n⟩
    | cons x l =>
      have h1 : 0 < t.size := by rw [hlen]; simp
      have hx : t[0] = x := by
        have := Lib.size_eq t
        show t.data[0] = x
        rw [← Array.getElem_toList]; simp [hl]
      have hT := Lib.hid (ext_from t 1)
      have HL := Lib.hid hl
      clear hl
      by_cases hc : x = c
      · have hb : ((x.toNat : Int) == (c.toNat : Int)) = true := by subst hc; simp
        have hD := Lib.hid (dropB_yes (l := l) hc)
        clear hc
        go_wp2_with fail
        have hl2 : t.size = l.length + 1 := by rw [hlen]; rfl
        rw [← hl2]
        go_roundw
        case rel =>
          refine ⟨_, rfl, ⟨n, rfl⟩, by rw [Lib.size_eq, hT.out, List.length_drop, ← Lib.size_eq]; omega, Lib.hid ?_⟩
          rw [hT.out, HL.out]
          show dropB c l = _
          rw [← hD.out, ← HL.out]; exact hP.out
        case measure =>
          show (t.extract 1 t.size).size < t.size
          rw [Lib.size_eq, hT.out, List.length_drop, ← Lib.size_eq]; omega
      · have hb : ((x.toNat : Int) == (c.toNat : Int)) = false := by
          rw [beq_eq_false_iff_ne]; intro h'; apply hc; exact UInt8.toNat_inj.1 (by exact_mod_cast h')
        have hR : Hid (t = ⟨(dropB c s.data.toList).toArray⟩) := Lib.hid (by rw [← hP.out, HL.out, dropB_no hc]; exact str_of HL.out)
        clear hc
        go_wp2_with fail
        go_ret
        exact ⟨ret_s hR.out, below_drewN (Below.refl _ _) n⟩

set_option maxRecDepth 1000000 in
set_option maxHeartbeats 4000000 in
theorem tl_any (s : ByteArray) (w : World) (hs : s.size ≤ 1000000) :
    Calls Tryd.prog 49 #[.string s, .string ⟨#[48]⟩] w fun e w' => e = .returned (.string ⟨(dropB 48 s.data.toList).toArray⟩) ∧ Below w.heap.size w w' := by
  have C := Lib.hid (tlb_any s 48 w hs)
  clear hs
  by_cases h0 : s = ⟨#[]⟩
  · subst h0
    go_enter Tryd.func49, Tryd.ntmps49
    go_wp2_with fail
    go_ret
    exact ⟨rfl, Below.refl _ _⟩
  · have hE : ¬ s.toList = [] := by
      rw [ByteArray.toList_eq]; intro h; apply h0; exact str_of h
    have hE2 : s.toList.isEmpty = false := by
      cases hh : s.toList with
      | nil => exact absurd hh hE
      | cons x l => rfl
    clear h0
    go_enter Tryd.func49, Tryd.ntmps49
    go_wp2_with (go_at_call 57; refine C.out.mono ?_; rintro e w1 ⟨rfl, hb1⟩)
    go_ret
    exact ⟨rfl, hb1⟩

end Go.Proofs.YteobjelenfjifaaDoor
