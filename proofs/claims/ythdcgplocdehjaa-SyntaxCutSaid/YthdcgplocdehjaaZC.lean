import Derived.Test.YthdcgplocdehjaaZB
namespace Go.Proofs.Ythdcgplocdehjaa
open Go.RowKit Go.Proofs.Kit

set_option maxHeartbeats 400000 in
theorem rletter_any (c : UInt8) (w : World) :
    Calls Try.prog 43 #[.int .u8 c.toNat] w fun e w' => e = .returned (.bool (isLetter c)) ∧ w = w' := by
  unfold isLetter
  go_enter Try.func43, Try.ntmps43
  go_wp2
  all_goals
    go_ret
    exact ⟨ret_bool (by simp; try omega), rfl⟩

set_option maxHeartbeats 400000 in
theorem rdigit_any (c : UInt8) (w : World) :
    Calls Try.prog 63 #[.int .u8 c.toNat] w fun e w' => e = .returned (.bool (isDigit c)) ∧ w = w' := by
  unfold isDigit
  go_enter Try.func63, Try.ntmps63
  go_wp2
  all_goals
    go_ret
    exact ⟨ret_bool (by simp; try omega), rfl⟩

set_option maxHeartbeats 400000 in
theorem rtail_any (c : UInt8) (w : World) :
    Calls Try.prog 61 #[.int .u8 c.toNat] w fun e w' => e = .returned (.bool (isTail c)) ∧ w = w' := by
  go_enter Try.func61, Try.ntmps61
  go_wp2_with (first
    | (go_at_call 43; refine (rletter_any _ _).mono ?_; rintro e w' ⟨rfl, rfl⟩)
    | (go_at_call 63; refine (rdigit_any _ _).mono ?_; rintro e w' ⟨rfl, rfl⟩))
  all_goals
    go_ret
    exact ⟨ret_bool (by simp [isTail, *]), rfl⟩

def inL (c : UInt8) (l : List UInt8) : Bool := l.any fun x => (x.toNat : Int) == (c.toNat : Int)

set_option maxHeartbeats 1000000 in
theorem in_any (c : UInt8) (s : ByteArray) (w : World) (hs : s.size ≤ maxLen) :
    Calls Try.prog 30 #[.int .u8 c.toNat, .string s] w fun e w' => e = .returned (.bool (inL c s.data.toList)) ∧ w = w' := by
  unfold maxLen at hs
  go_enter Try.func30, Try.ntmps30
  go_wp2
  go_loop [5] (fun i => ∃ k : Nat, k ≤ s.size ∧ i = .int .i64 k ∧ Hid (inL c (s.data.toList.take k) = false)) (fun i => s.size - (intOf i).toNat)
  case atStart => exact ⟨0, Nat.zero_le _, rfl, Lib.hid (by simp [inL])⟩
  case round =>
    obtain ⟨k, hk, rfl, hP⟩ := hrel
    by_cases hlt : k < s.size
    · have hts := Lib.hid (take_snoc s k hlt)
      go_wp2
      · have h1 : ((s[k].toNat : Int) == (c.toNat : Int)) = true := by assumption
        go_ret
        refine ⟨ret_bool ?_, rfl⟩
        have : s.data.toList[k]'(by rw [← Lib.size_eq]; exact hlt) ∈ s.data.toList := List.getElem_mem _
        symm
        exact List.any_eq_true.2 ⟨_, this, by rw [data_at s k hlt]; exact h1⟩
      · have h1 : ((s[k].toNat : Int) == (c.toNat : Int)) = false := by assumption
        go_round
        case rel => exact ⟨k + 1, by omega, by go_num, Lib.hid (by rw [hts.out]; unfold inL at *; rw [List.any_append, hP.out]; simpa using h1)⟩
        case measure => simp [intOf]; omega
    · go_wp2
      go_ret
      refine ⟨ret_bool ?_, rfl⟩
      have := hP.out
      rw [List.take_of_length_le (by rw [← Lib.size_eq]; omega)] at this
      exact this.symm

set_option maxHeartbeats 1000000 in
theorem run_any (s : ByteArray) (w : World) (hs : s.size ≤ maxLen) :
    Calls Try.prog 44 #[.string s] w fun e w' => e = .returned (.int .i64 (spanL isTail s.data.toList)) ∧ w = w' := by
  unfold maxLen at hs
  go_enter Try.func44, Try.ntmps44
  go_wp2
  go_loop [3] (fun i => ∃ k : Nat, k ≤ s.size ∧ i = .int .i64 k ∧ Hid (∀ j (h : j < s.data.toList.length), j < k → isTail s.data.toList[j] = true)) (fun i => s.size - (intOf i).toNat)
  case atStart => exact ⟨0, Nat.zero_le _, rfl, fun _ _ h => absurd h (by omega)⟩
  case round =>
    obtain ⟨k, hk, rfl, hP⟩ := hrel
    by_cases hlt : k < s.size
    · cases hp : isTail s[k]
      · go_wp2_with (go_at_call 61; refine (rtail_any _ _).mono ?_; rintro e w' ⟨rfl, rfl⟩)
        go_ret
        exact ⟨ret_int (by rw [spanL_at _ _ k (by simpa using hk) hP.out (fun h => by simp only [Array.getElem_toList]; exact hp)]), rfl⟩
      · go_wp2_with (go_at_call 61; refine (rtail_any _ _).mono ?_; rintro e w' ⟨rfl, rfl⟩)
        go_round
        case rel =>
          refine ⟨k + 1, by omega, by go_num, fun j h hj => ?_⟩
          by_cases hjk : j < k
          · exact hP.out j h hjk
          · obtain rfl : j = k := by omega
            simp only [Array.getElem_toList]; exact hp
        case measure => simp [intOf]; omega
    · go_wp2
      go_ret
      exact ⟨ret_int (by rw [spanL_at _ _ k (by simpa using hk) hP.out (fun h => absurd h (by simpa using hlt))]), rfl⟩

/-- Is the whole text a word, a number? -/
def wordB (l : List UInt8) : Bool := decide (0 < l.length) && decide (wordL l = l.length)

set_option maxHeartbeats 1000000 in
theorem rword_any (s : ByteArray) (w : World) (hs : s.size ≤ maxLen) :
    Calls Try.prog 28 #[.string s] w fun e w' => e = .returned (.bool (wordB s.data.toList)) ∧ w = w' := by
  by_cases h0 : 0 < s.size
  · have hE : s.toList.isEmpty = false := bempty_f s h0
    have HW : Hid (wordB s.data.toList = decide (wordL s.data.toList = s.size)) := Lib.hid (by unfold wordB; rw [← Lib.size_eq]; simp [h0])
    have HW2 := Lib.hid (wordL_ne s h0)
    cases hl : isLetter s[0]
    · go_enter Try.func28, Try.ntmps28
      go_wp2_with (go_at_call 43; refine (rletter_any _ _).mono ?_; rintro e w' ⟨rfl, rfl⟩)
      go_ret
      exact ⟨ret_bool (by rw [HW.out, HW2.out, hl]; simp; omega), rfl⟩
    · go_enter Try.func28, Try.ntmps28
      go_wp2_with (first
        | (go_at_call 43; refine (rletter_any _ _).mono ?_; rintro e w' ⟨rfl, rfl⟩)
        | (go_at_call 44; refine (run_any _ _ hs).mono ?_; rintro e w' ⟨rfl, rfl⟩))
      go_ret
      exact ⟨ret_bool (by rw [HW.out, HW2.out, hl, Bool.eq_iff_iff]; simp; omega), rfl⟩
  · have hE : s.toList.isEmpty = true := bempty_t s h0
    have HW : Hid (wordB s.data.toList = false) := by rw [data_nil s h0]; exact Lib.hid rfl
    clear h0
    go_enter Try.func28, Try.ntmps28
    go_wp2
    go_ret
    exact ⟨ret_bool (by rw [HW.out]), rfl⟩

theorem ne48 (c : UInt8) : decide (some c ≠ some (48 : UInt8)) = ((c.toNat : Int) != 48) := by
  rw [Bool.eq_iff_iff]
  simp only [ne_eq, Option.some.injEq, decide_eq_true_eq, bne_iff_ne]
  constructor
  · intro h h'; exact h (UInt8.toNat_inj.1 (by simp; omega))
  · intro h h'; rw [h'] at h; exact h rfl

def numB (l : List UInt8) : Bool := l.all isDigit && decide (1 ≤ l.length) && decide (l.length ≤ 6) && (decide (l.length = 1) || decide (l.head? ≠ some 48))

set_option maxHeartbeats 2000000 in
theorem rnumber_any (s : ByteArray) (w : World) (hs : s.size ≤ maxLen) :
    Calls Try.prog 46 #[.string s] w fun e w' => e = .returned (.bool (numB s.data.toList)) ∧ w = w' := by
  unfold maxLen at hs
  go_enter Try.func46, Try.ntmps46
  go_wp2
  go_loop [3] (fun i => ∃ k : Nat, k ≤ s.size ∧ i = .int .i64 k ∧ Hid ((s.data.toList.take k).all isDigit = true)) (fun i => s.size - (intOf i).toNat)
  case atStart => exact ⟨0, Nat.zero_le _, rfl, Lib.hid (by simp)⟩
  case round =>
    obtain ⟨k, hk, rfl, hP⟩ := hrel
    by_cases hlt : k < s.size
    · have hts := Lib.hid (take_snoc s k hlt)
      cases hp : isDigit s[k]
      · go_wp2_with (go_at_call 63; refine (rdigit_any _ _).mono ?_; rintro e w' ⟨rfl, rfl⟩)
        go_ret
        exact ⟨ret_bool (by unfold numB; rw [all_false_at s k hlt isDigit hp]; rfl), rfl⟩
      · go_wp2_with (go_at_call 63; refine (rdigit_any _ _).mono ?_; rintro e w' ⟨rfl, rfl⟩)
        go_round
        case rel => exact ⟨k + 1, by omega, by go_num, Lib.hid (by rw [hts.out, List.all_append, hP.out]; simpa using hp)⟩
        case measure => simp [intOf]; omega
    · have hA : Hid (s.data.toList.all isDigit = true) := Lib.hid (by
        have := hP.out
        rw [List.take_of_length_le (by rw [← Lib.size_eq]; omega)] at this
        exact this)
      have KEY : Hid (numB s.data.toList = (decide (1 ≤ s.size) && decide (s.size ≤ 6) && (decide (s.size = 1) || decide (s.data.toList.head? ≠ some 48)))) := Lib.hid (by
        unfold numB; rw [hA.out, ← Lib.size_eq]; simp)
      have hh : ∀ h : 0 < s.size, s.data.toList.head? = some s[0] := fun h => by obtain ⟨r, hr⟩ := data_cons s h; rw [hr]; rfl
      have HH := Lib.hid hh
      clear hh
      by_cases h0 : 0 < s.size
      · by_cases h1 : s.size = 1
        · have b1 : ((s.size : Int) == 1) = true := by simp [h1]
          have H1 := Lib.hid h1
          have h6 : s.size ≤ 1 := by omega
          clear h1
          go_wp2
          all_goals
            go_ret
            refine ⟨ret_bool ?_, rfl⟩
            rw [KEY.out, H1.out]
            rfl
        · have b1 : ((s.size : Int) == 1) = false := by rw [beq_eq_false_iff_ne]; omega
          go_wp2
          all_goals
            go_ret
            refine ⟨ret_bool ?_, rfl⟩
            rw [KEY.out, HH.out h0, ne48]
            simp only [show decide (s.size = 1) = false by simp; exact h1]
            simp
            try omega
      · go_wp2
        go_ret
        refine ⟨ret_bool ?_, rfl⟩
        rw [KEY.out]
        simp; omega

end Go.Proofs.Ythdcgplocdehjaa

namespace Go.Proofs.Ythdcgplocdehjaa
open Go.RowKit Go.Proofs.Kit

def noSlash (c : UInt8) : Bool := !((c.toNat : Int) == 47)

def rbareL (l : List UInt8) : Bool :=
  if spanL noSlash l < l.length then numB (l.take (spanL noSlash l)) && numB (l.drop (spanL noSlash l + 1)) else wordB l || numB l

set_option maxHeartbeats 2000000 in
theorem rbare_any (s : ByteArray) (w : World) (hs : s.size ≤ maxLen) :
    Calls Try.prog 62 #[.string s] w fun e w' => e = .returned (.bool (rbareL s.data.toList)) ∧ w = w' := by
  have HS := Lib.hid hs
  unfold maxLen at hs
  go_enter Try.func62, Try.ntmps62
  go_wp2_with fail
  go_loop [3] (fun i => ∃ k : Nat, k ≤ s.size ∧ i = .int .i64 k ∧ Hid (∀ j (h : j < s.data.toList.length), j < k → noSlash s.data.toList[j] = true)) (fun i => s.size - (intOf i).toNat)
  case atStart => exact ⟨0, Nat.zero_le _, rfl, fun _ _ h => absurd h (by omega)⟩
  case round =>
    obtain ⟨k, hk, rfl, hP⟩ := hrel
    by_cases hlt : k < s.size
    · cases hp : ((s[k].toNat : Int) == 47)
      · go_wp2_with fail
        go_round
        case rel =>
          refine ⟨k + 1, by omega, by go_num, fun j h hj => ?_⟩
          by_cases hjk : j < k
          · exact hP.out j h hjk
          · obtain rfl : j = k := by omega
            simp only [Array.getElem_toList, noSlash]; rw [show s.data[j] = s[j] from rfl, hp]; rfl
        case measure => simp [intOf]; omega
      · have K1 : Hid (rbareL s.data.toList = (numB (s.data.toList.take k) && numB (s.data.toList.drop (k + 1)))) := Lib.hid (by
          unfold rbareL
          rw [spanL_at _ _ k (by simpa using hk) hP.out (fun h => by simp only [Array.getElem_toList, noSlash]; rw [show s.data[k] = s[k] from rfl, hp]; rfl), if_pos (by rw [← Lib.size_eq]; exact hlt)])
        have H1 : Hid ((s.extract 0 k).size ≤ maxLen) := Lib.hid (by rw [Lib.size_eq, ext_to, List.length_take]; unfold maxLen; omega)
        have H2 : Hid ((s.extract (k+1) s.size).size ≤ maxLen) := Lib.hid (by rw [Lib.size_eq, ext_from, List.length_drop, ← Lib.size_eq]; unfold maxLen; omega)
        go_wp2_with (first
          | (go_at_call 46; refine (rnumber_any _ _ (by first | (with_reducible exact H1.out) | (with_reducible exact H2.out))).mono ?_; rintro e w' ⟨rfl, rfl⟩; first | rw [ext_to] | rw [ext_from]))
        all_goals
          go_ret
          exact ⟨ret_bool (by rw [K1.out]; simp [*]), rfl⟩
    · have K1 : Hid (rbareL s.data.toList = (wordB s.data.toList || numB s.data.toList)) := Lib.hid (by
          unfold rbareL
          rw [spanL_at _ _ k (by simpa using hk) hP.out (fun h => absurd h (by simpa using hlt)), if_neg (by rw [← Lib.size_eq]; exact hlt)])
      go_wp2_with (first
        | (go_at_call 28; refine (rword_any _ _ HS.out).mono ?_; rintro e w' ⟨rfl, rfl⟩)
        | (go_at_call 46; refine (rnumber_any _ _ HS.out).mono ?_; rintro e w' ⟨rfl, rfl⟩))
      all_goals
        go_ret
        exact ⟨ret_bool (by rw [K1.out]; simp [*]), rfl⟩

theorem data_app (a b : ByteArray) : (a ++ b).data.toList = a.data.toList ++ b.data.toList := Go.Joins.data_append a b
theorem ext_one (s : ByteArray) (k : Nat) (h : k < s.size) : (s.extract k (k+1)).data.toList = [s[k]] := by
  rw [Lib.extract_data, drop_at s k h, show k + 1 - k = 1 by omega]; rfl

/-- What 'str' hands back. -/
def SRet (x : Option (List UInt8 × Nat)) (e : Ending) : Prop := match x with
  | some (t, n) => e = .returned (.tuple #[.string ⟨t.toArray⟩, .int .i64 n])
  | none => e = .returned (.tuple #[.string ⟨#[]⟩, .int .i64 0])

theorem ret_si {k : IntKind} {a b : Int} {s t : ByteArray} (h' : s = t) (h : a = b) : Ending.returned (.tuple #[.string s, .int k a]) = .returned (.tuple #[.string t, .int k b]) := by rw [h, h']

set_option maxHeartbeats 4000000 in
theorem str_any (s : ByteArray) (w : World) (hs : s.size ≤ 140737488351232) :
    Calls Try.prog 47 #[.string s] w fun e w' => SRet (strL s.data.toList) e ∧ w = w' := by
  go_enter Try.func47, Try.ntmps47
  go_wp2_with fail
  go_loop [4, 5] (fun t i => ∃ k : Nat, ∃ T : ByteArray, k ≤ s.size ∧ T.size ≤ k ∧ t = .string T ∧ i = .int .i64 k ∧ Hid (strL s.data.toList = addS T.data.toList k (strL (s.data.toList.drop k)))) (fun _ i => s.size - (intOf i).toNat)
  case atStart => exact ⟨0, ⟨#[]⟩, by omega, by show 0 ≤ 0; omega, rfl, rfl, Lib.hid (by unfold addS; simp)⟩
  case round =>
    obtain ⟨k, T, hk, hT, rfl, rfl, hP⟩ := hrel
    by_cases hlt : k < s.size
    · have hd := Lib.hid (drop_at s k hlt)
      have HDS : Hid (∀ h : k + 1 < s.size, s.data.toList.drop k = s[k] :: s[k+1] :: s.data.toList.drop (k+1+1)) := Lib.hid fun h => by rw [hd.out, drop_at s (k+1) h]
      have HDE : Hid (¬ k + 1 < s.size → s.data.toList.drop k = [s[k]]) := Lib.hid fun h => by rw [hd.out, drop_end s (k+1) h]
      cases c1 : ((s[k].toNat : Int) == 34)
      · by_cases c2 : (s[k].toNat : Int) < 32 ∨ 126 < (s[k].toNat : Int)
        · have hp : isPrint s[k] = false := by unfold isPrint; simp; omega
          have hp2 : ((s[k].toNat : Int) == 92) = false := by rw [beq_eq_false_iff_ne]; omega
          have HF : Hid (SRet (strL s.data.toList) = fun e => e = .returned (.tuple #[.string ⟨#[]⟩, .int .i64 0])) := Lib.hid (by
            funext e; rw [hP.out, hd.out, addS_ctl _ _ _ _ c1 hp2 hp]; rfl)
          clear hp hp2
          rcases c2 with c2 | c2
          · go_wp2_with fail
            go_ret2
            exact ⟨by rw [HF.out]; rfl, rfl⟩
          · go_wp2_with fail
            go_ret2
            exact ⟨by rw [HF.out]; rfl, rfl⟩
        · have c3 : ¬ (s[k].toNat : Int) < 32 := fun h => c2 (.inl h)
          have c4 : ¬ 126 < (s[k].toNat : Int) := fun h => c2 (.inr h)
          have hp : isPrint s[k] = true := by unfold isPrint; simp; omega
          have HP := Lib.hid hp
          clear c2 hp
          cases c5 : ((s[k].toNat : Int) == 92)
          · go_wp2_with fail
            go_round
            case rel =>
              refine ⟨k + 1, T ++ s.extract k (k+1), by omega, ?_, rfl, by go_num, Lib.hid ?_⟩
              · rw [Lib.size_eq, data_app, ext_one s k hlt, List.length_append, ← Lib.size_eq]; simp; omega
              · rw [hP.out, hd.out, addS_plain _ _ _ _ c1 c5 HP.out, data_app, ext_one s k hlt]
            case measure => simp [intOf]; omega
          · go_wp2_with fail
            · have h3 : (s[k+1].toNat : Int) = 34 := by assumption
              go_round
              case rel =>
                refine ⟨k + 2, T ++ s.extract (k+1) (k+1+1), by omega, ?_, rfl, by go_num, Lib.hid ?_⟩
                · rw [Lib.size_eq, data_app, ext_one s (k+1) (by omega), List.length_append, ← Lib.size_eq]; simp; omega
                · rw [hP.out, HDS.out (by omega), addS_esc _ _ _ _ _ c1 c5 (by simp [h3]), data_app, ext_one s (k+1) (by omega)]
              case measure => simp [intOf]; omega
            · have h3 : ¬ (s[k+1].toNat : Int) = 34 := by assumption
              rename_i h4
              have h5 : ¬ (s[k+1].toNat : Int) = 92 := by
                rcases h4 with h4 | h4
                · omega
                · simpa using h4.2
              go_ret2
              refine ⟨?_, rfl⟩
              rw [hP.out, HDS.out (by omega), addS_bad _ _ _ _ _ c1 c5 (by simp [h3, h5])]; rfl
            · have h3 : ¬ (s[k+1].toNat : Int) = 34 := by assumption
              rename_i h4
              have h5 : (s[k+1].toNat : Int) = 92 := by
                rcases h4.2 with h4 | h4
                · exact absurd (by simpa using h4) h3
                · simpa using h4
              go_round
              case rel =>
                refine ⟨k + 2, T ++ s.extract (k+1) (k+1+1), by omega, ?_, rfl, by go_num, Lib.hid ?_⟩
                · rw [Lib.size_eq, data_app, ext_one s (k+1) (by omega), List.length_append, ← Lib.size_eq]; simp; omega
                · rw [hP.out, HDS.out (by omega), addS_esc _ _ _ _ _ c1 c5 (by simp [h5]), data_app, ext_one s (k+1) (by omega)]
              case measure => simp [intOf]; omega
            · go_ret2
              refine ⟨?_, rfl⟩
              rw [hP.out, HDE.out (by omega), addS_end _ _ _ c1 c5]; rfl
      · go_wp2_with fail
        go_ret2
        refine ⟨?_, rfl⟩
        rw [hP.out, hd.out, addS_close _ _ _ _ c1]
        exact ret_si (by rw [Lib.mk_data]) (by omega)
    · go_wp2_with fail
      go_ret2
      refine ⟨?_, rfl⟩
      rw [hP.out, drop_end s k hlt]
      rfl

end Go.Proofs.Ythdcgplocdehjaa

namespace Go.Proofs.Ythdcgplocdehjaa
open Go.RowKit Go.Proofs.Kit

/-- The reference's token. -/
def oneL (l : List UInt8) : Option (Int × List UInt8 × Nat) :=
  if wordB (l.take (spanL isTail l)) then some (1, l.take (spanL isTail l), spanL isTail l)
  else if numB (l.take (spanL isTail l)) then some (2, l.take (spanL isTail l), spanL isTail l)
  else match l with
    | [] => none
    | c :: r => if inL c [123, 125, 59, 44, 47] then some (4, [c], 1) else if (c.toNat : Int) == 34 then (strL r).map fun (t, n) => (3, t, n + 1) else none

set_option maxHeartbeats 4000000 in
theorem one_any (s : ByteArray) (w : World) (hs : s.size ≤ 140737488351232) (h0 : 0 < s.size) :
    Calls Try.prog 31 #[.string s] w fun e w' => NRet (oneL s.data.toList) e ∧ Below w.heap.size w w' := by
  have HSM : Hid (s.size ≤ maxLen) := Lib.hid (by unfold maxLen; omega)
  obtain ⟨n, hn⟩ : ∃ n, n = spanL isTail s.data.toList := ⟨_, rfl⟩
  have hle : n ≤ s.size := by rw [hn, Lib.size_eq]; exact spanL_le _ _
  obtain ⟨r, hr⟩ := data_cons s h0
  have HR := Lib.hid hr
  have HRL : Hid (s.data.toList.drop 1 = r) := by rw [hr]; exact Lib.hid rfl
  have key : oneL s.data.toList = if wordB (s.data.toList.take n) then some ((1:Int), s.data.toList.take n, n) else if numB (s.data.toList.take n) then some ((2:Int), s.data.toList.take n, n)
      else if inL s[0] [123, 125, 59, 44, 47] then some ((4:Int), [s[0]], 1) else if (s[0].toNat : Int) == 34 then (strL r).map fun (t, n) => ((3:Int), t, n + 1) else none := by
    unfold oneL; rw [← hn]
    split; rfl
    split; rfl
    rw [hr]
  have KEY := Lib.hid key
  have HN := Lib.hid hn
  have HX : Hid (∀ n, s.extract 0 n = ⟨(s.data.toList.take n).toArray⟩) := Lib.hid fun n => by rw [Lib.extract_eq, List.drop_zero, Nat.sub_zero]
  have H1 : Hid ((s.extract 0 n).size ≤ maxLen) := Lib.hid (by rw [Lib.size_eq, ext_to, List.length_take]; unfold maxLen; omega)
  clear hr key hn
  cases c1 : wordB (s.data.toList.take n)
  rotate_left
  · have C1 := Lib.hid c1
    clear c1
    go_enter Try.func31, Try.ntmps31
    go_wp2_with (first
      | (go_at_call 44; refine (run_any _ _ HSM.out).mono ?_; rintro e w' ⟨rfl, rfl⟩; rw [← HN.out])
      | (go_at_call 28; refine (rword_any _ _ H1.out).mono ?_; rintro e w' ⟨rfl, rfl⟩; rw [ext_to, C1.out]))
    go_quiet (fail)
    go_wp2
    go_ret3
    refine ⟨?_, below_drewN (Below.refl _ _) _⟩
    rw [KEY.out, C1.out, if_pos rfl]
    show Ending.returned (.tuple #[_, .string _, _]) = _
    rw [HX.out]
    rfl
  have C1 := Lib.hid c1
  clear c1
  cases c2 : numB (s.data.toList.take n)
  rotate_left
  · have C2 := Lib.hid c2
    clear c2
    go_enter Try.func31, Try.ntmps31
    go_wp2_with (first
      | (go_at_call 44; refine (run_any _ _ HSM.out).mono ?_; rintro e w' ⟨rfl, rfl⟩; rw [← HN.out])
      | (go_at_call 28; refine (rword_any _ _ H1.out).mono ?_; rintro e w' ⟨rfl, rfl⟩; rw [ext_to, C1.out])
      | (go_at_call 46; refine (rnumber_any _ _ H1.out).mono ?_; rintro e w' ⟨rfl, rfl⟩; rw [ext_to, C2.out]))
    go_quiet (fail)
    go_wp2
    go_ret3
    refine ⟨?_, below_drewN (Below.refl _ _) _⟩
    rw [KEY.out, C1.out, C2.out, if_neg (by simp), if_pos rfl]
    show Ending.returned (.tuple #[_, .string _, _]) = _
    rw [HX.out]
    rfl
  have C2 := Lib.hid c2
  have KEY2 : Hid (oneL s.data.toList = if inL s[0] [123, 125, 59, 44, 47] then some ((4:Int), [s[0]], 1) else if (s[0].toNat : Int) == 34 then (strL r).map fun (t, n) => ((3:Int), t, n + 1) else none) := Lib.hid (by
    have := KEY.out; rw [C1.out, C2.out, if_neg (by simp), if_neg (by simp)] at this; exact this)
  clear c2 KEY
  have HI : Hid ((⟨#[123, 125, 59, 44, 47]⟩ : ByteArray).size ≤ maxLen) := Lib.hid (by show 5 ≤ _; unfold maxLen; omega)
  cases c3 : inL s[0] [123, 125, 59, 44, 47]
  rotate_left
  · have C3 := Lib.hid c3
    clear c3
    go_enter Try.func31, Try.ntmps31
    go_wp2_with (first
      | (go_at_call 44; refine (run_any _ _ HSM.out).mono ?_; rintro e w' ⟨rfl, rfl⟩; rw [← HN.out])
      | (go_at_call 28; refine (rword_any _ _ H1.out).mono ?_; rintro e w' ⟨rfl, rfl⟩; rw [ext_to, C1.out])
      | (go_at_call 46; refine (rnumber_any _ _ H1.out).mono ?_; rintro e w' ⟨rfl, rfl⟩; rw [ext_to, C2.out])
      | (go_at_call 30; refine (in_any _ _ _ HI.out).mono ?_; rintro e w' ⟨rfl, rfl⟩; rw [show (⟨#[123, 125, 59, 44, 47]⟩ : ByteArray).data.toList = [123, 125, 59, 44, 47] from rfl, C3.out]))
    go_quiet (fail)
    go_wp2
    go_ret3
    refine ⟨?_, below_drewN (Below.refl _ _) _⟩
    rw [KEY2.out, C3.out, if_pos rfl]
    show Ending.returned (.tuple #[_, .string _, _]) = _
    rw [HX.out, HR.out]
    rfl
  have C3 := Lib.hid c3
  clear c3
  cases c4 : ((s[0].toNat : Int) == 34)
  · have KEY3 : Hid (oneL s.data.toList = none) := Lib.hid (by have := KEY2.out; rw [C3.out, c4] at this; exact this)
    go_enter Try.func31, Try.ntmps31
    go_wp2_with (first
      | (go_at_call 44; refine (run_any _ _ HSM.out).mono ?_; rintro e w' ⟨rfl, rfl⟩; rw [← HN.out])
      | (go_at_call 28; refine (rword_any _ _ H1.out).mono ?_; rintro e w' ⟨rfl, rfl⟩; rw [ext_to, C1.out])
      | (go_at_call 46; refine (rnumber_any _ _ H1.out).mono ?_; rintro e w' ⟨rfl, rfl⟩; rw [ext_to, C2.out])
      | (go_at_call 30; refine (in_any _ _ _ HI.out).mono ?_; rintro e w' ⟨rfl, rfl⟩; rw [show (⟨#[123, 125, 59, 44, 47]⟩ : ByteArray).data.toList = [123, 125, 59, 44, 47] from rfl, C3.out]))
    go_ret3
    refine ⟨?_, Below.refl _ _⟩
    rw [KEY3.out]
    exact ⟨_, rfl⟩
  · have KEY3 : Hid (oneL s.data.toList = (strL r).map fun (t, n) => ((3:Int), t, n + 1)) := Lib.hid (by have := KEY2.out; rw [C3.out, c4] at this; exact this)
    have H2 : Hid ((s.extract 1 s.size).size ≤ 140737488351232) := Lib.hid (by rw [Lib.size_eq, ext_from, List.length_drop, ← Lib.size_eq]; omega)
    cases hq : strL r with
    | none =>
      have HQ := Lib.hid hq
      clear hq
      go_enter Try.func31, Try.ntmps31
      go_wp2_with (first
        | (go_at_call 44; refine (run_any _ _ HSM.out).mono ?_; rintro e w' ⟨rfl, rfl⟩; rw [← HN.out])
        | (go_at_call 28; refine (rword_any _ _ H1.out).mono ?_; rintro e w' ⟨rfl, rfl⟩; rw [ext_to, C1.out])
        | (go_at_call 46; refine (rnumber_any _ _ H1.out).mono ?_; rintro e w' ⟨rfl, rfl⟩; rw [ext_to, C2.out])
        | (go_at_call 30; refine (in_any _ _ _ HI.out).mono ?_; rintro e w' ⟨rfl, rfl⟩; rw [show (⟨#[123, 125, 59, 44, 47]⟩ : ByteArray).data.toList = [123, 125, 59, 44, 47] from rfl, C3.out])
        | (go_at_call 47; refine (str_any _ _ H2.out).mono ?_; rw [ext_from, HRL.out, HQ.out]; rintro e w' ⟨rfl, rfl⟩))
      go_ret3
      refine ⟨?_, Below.refl _ _⟩
      rw [KEY3.out, HQ.out]
      exact ⟨_, rfl⟩
    | some x =>
      obtain ⟨t, m⟩ := x
      have hml := strL_len _ r t m (Nat.le_refl _) hq
      have hrl : r.length ≤ s.size := by rw [← HRL.out, List.length_drop, ← Lib.size_eq]; omega
      have HQ := Lib.hid hq
      clear hq
      go_enter Try.func31, Try.ntmps31
      go_wp2_with (first
        | (go_at_call 44; refine (run_any _ _ HSM.out).mono ?_; rintro e w' ⟨rfl, rfl⟩; rw [← HN.out])
        | (go_at_call 28; refine (rword_any _ _ H1.out).mono ?_; rintro e w' ⟨rfl, rfl⟩; rw [ext_to, C1.out])
        | (go_at_call 46; refine (rnumber_any _ _ H1.out).mono ?_; rintro e w' ⟨rfl, rfl⟩; rw [ext_to, C2.out])
        | (go_at_call 30; refine (in_any _ _ _ HI.out).mono ?_; rintro e w' ⟨rfl, rfl⟩; rw [show (⟨#[123, 125, 59, 44, 47]⟩ : ByteArray).data.toList = [123, 125, 59, 44, 47] from rfl, C3.out])
        | (go_at_call 47; refine (str_any _ _ H2.out).mono ?_; rw [ext_from, HRL.out, HQ.out]; rintro e w' ⟨rfl, rfl⟩))
      go_ret3
      refine ⟨?_, Below.refl _ _⟩
      rw [KEY3.out, HQ.out]
      rfl

end Go.Proofs.Ythdcgplocdehjaa

namespace Go.Proofs.Ythdcgplocdehjaa
open Go.RowKit Go.Proofs.Kit

def refL : Nat → Nat → List UInt8 → Except Nat (List Tok)
  | 0, line, _ => .error line
  | _ + 1, line, [] => .ok [(5, [], line)]
  | f + 1, line, c :: r =>
    if (c.toNat : Int) == 35 then refL f line ((c :: r).drop (spanL notNl (c :: r)))
    else if inL c [32, 9, 10, 13] then refL f (if (c.toNat : Int) == 10 then line + 1 else line) r
    else match oneL (c :: r) with
      | none => .error line
      | some (k, t, n) => (refL f line ((c :: r).drop n)).map fun x => (k, t, line) :: x

theorem wordB_len {l : List UInt8} (h : wordB l = true) : 1 ≤ l.length := by
  unfold wordB at h; simp at h; cases l <;> simp_all
theorem numB_len {l : List UInt8} (h : numB l = true) : 1 ≤ l.length := by
  unfold numB at h; simp at h; omega

theorem oneL_len {l t : List UInt8} {k : Int} {n : Nat} (h : oneL l = some (k, t, n)) : 1 ≤ n ∧ n ≤ l.length := by
  have h1 := spanL_le isTail l
  cases l with
  | nil => simp [oneL, spanL, wordB, numB] at h
  | cons c r =>
    unfold oneL at h
    split at h
    · rename_i hw; have := wordB_len hw; rw [List.length_take] at this; simp at h; omega
    · split at h
      · rename_i hw; have := numB_len hw; rw [List.length_take] at this; simp at h; omega
      · simp only [] at h
        split at h
        · simp at h; simp; omega
        · split at h
          · cases hs : strL r with
            | none => rw [hs] at h; simp at h
            | some x =>
              rw [hs] at h; simp at h
              have := strL_len _ r x.1 x.2 (Nat.le_refl _) hs
              simp; omega
          · simp at h

set_option maxHeartbeats 4000000 in
theorem rall_any (s : ByteArray) (w : World) (hs : s.size ≤ 20000) :
    Calls Try.prog 16 #[.string s] w fun e w' => ARet w.heap.size (refL (s.size + 1) 1 s.data.toList) e w' ∧ Below w.heap.size w w' := by
  go_enter Try.func16, Try.ntmps16
  go_wp2_with fail
  go_loopw [4, 5, 6] (fun v ln i wr => ∃ acc : List Tok, ∃ line f k : Nat, k ≤ s.size ∧ acc.length ≤ k ∧ line ≤ k + 1 ∧ s.size - k < f ∧ i = .int .i64 k ∧ ln = .int .i64 line ∧
      wr.ownsRow (w.heap.size + 1) 47 3 v acc.length (acc.flatMap tokCells) ∧ Below (w.heap.size + 1) (w.alloc (.cells #[.int .i64 0, .int .i64 0] 27)) wr ∧
      Hid (refL (s.size + 1) 1 s.data.toList = addT acc (refL f line (s.data.toList.drop k)))) (fun _ _ i _ => s.size - (intOf i).toNat)
  case atStart =>
    exact ⟨[], 1, s.size + 1, 0, by omega, by simp, by omega, by omega, rfl, rfl, World.ownsRow_nil _ _ _ _, Below.refl _ _, Lib.hid (by cases h : refL (s.size + 1) 1 s.data.toList <;> simp [addT, Except.map, h])⟩
  case round =>
    obtain ⟨acc, line, f, k, hk, hac, hli, hf, rfl, rfl, hown, hbel, hP⟩ := hrel
    obtain ⟨wo, rfl⟩ : ∃ wo : World, wo = wr := ⟨_, rfl⟩
    have hsz : w.heap.size + 1 ≤ wo.heap.size := by have := hbel.size; simpa using this
    have hf0 : wo.frozen? ⟨w.heap.size, 0, none⟩ = false := by rw [hbel.frozen (by simp)]; simp
    have hf1 : wo.frozen? ⟨w.heap.size, 1, none⟩ = false := by rw [hbel.frozen (by simp)]; simp
    have hc0 : wo.cell? ⟨w.heap.size, 0, none⟩ = some (.int .i64 0) := by rw [hbel.cell (by simp)]; simp
    have hc1 : wo.cell? ⟨w.heap.size, 1, none⟩ = some (.int .i64 0) := by rw [hbel.cell (by simp)]; simp
    have h0B : Below w.heap.size w wo := ((Below.refl w.heap.size w).alloc (Nat.le_refl _) _).trans (hbel.mono (by omega))
    obtain ⟨f', rfl⟩ : ∃ f', f = f' + 1 := ⟨f - 1, by omega⟩
    by_cases hlt : k < s.size
    · have hd := Lib.hid (drop_at s k hlt)
      have HI : Hid ((⟨#[32, 9, 10, 13]⟩ : ByteArray).size ≤ maxLen) := Lib.hid (by show 4 ≤ _; unfold maxLen; omega)
      cases c1 : ((s[k].toNat : Int) == 35)
      · cases c2 : inL s[k] [32, 9, 10, 13]
        · have C2 := Lib.hid c2
          obtain ⟨T, hT⟩ : ∃ T, T = s.extract k s.size := ⟨_, rfl⟩
          have hTd : T.data.toList = s.data.toList.drop k := by rw [hT, ext_from]
          have hTs : T.size = s.size - k := by rw [Lib.size_eq, hTd, List.length_drop, ← Lib.size_eq]
          have HTM : Hid (T.size ≤ 140737488351232) := Lib.hid (by omega)
          have hT0 : 0 < T.size := by omega
          have HT0 := Lib.hid hT0
          have HT := Lib.hid hT
          have HTd := Lib.hid hTd
          have hTs1 : T.size ≤ s.size - k := Nat.le_of_eq hTs
          clear c2 hT hTd hTs
          cases hn : oneL T.data.toList with
          | none =>
            have k1 : Hid (refL (f'+1) line (s.data.toList.drop k) = .error line) := Lib.hid (by
              rw [HTd.out] at hn
              rw [hd.out] at hn ⊢
              unfold refL
              rw [c1, C2.out, hn]; rfl)
            have HN := Lib.hid hn
            clear hn
            go_wp2_with (first
              | (go_at_call 30; refine (in_any _ _ _ HI.out).mono ?_; rintro e w' ⟨rfl, rfl⟩; rw [show (⟨#[32, 9, 10, 13]⟩ : ByteArray).data.toList = [32, 9, 10, 13] from rfl, C2.out])
              | (go_at_call 31; rw [← HT.out]; refine (one_any _ _ HTM.out HT0.out).mono ?_; rw [HN.out]; rintro e w2 ⟨⟨kk, rfl⟩, hbn⟩; have hc02 := cell_below hbn hc0 hsz; have hc12 := cell_below hbn hc1 hsz; have hf02 := free_below hbn hf0 hsz; have hf12 := free_below hbn hf1 hsz))
            refine bodyPost_ret (v := .tuple #[.slice none 0 0, .agg #[.int .i64 1, .int .i64 line]]) (by simp [results, Try.results16, go_sem, hc02, hc12]) rfl ⟨?_, ?_⟩
            · rw [hP.out, k1.out]
              rfl
            · exact Below.setCell (Below.setCell (h0B.trans (hbn.mono (by omega))) (by simp) _) (by simp) _
          | some x =>
            obtain ⟨kk, t, n⟩ := x
            have hnl := oneL_len hn
            rw [← Lib.size_eq] at hnl
            have k1 : Hid (refL (f'+1) line (s.data.toList.drop k) = (refL f' line (s.data.toList.drop (k + n))).map fun x => (kk, t, line) :: x) := Lib.hid (by
              rw [HTd.out] at hn
              rw [← List.drop_drop]
              rw [hd.out] at hn ⊢
              conv => lhs; unfold refL
              rw [c1, C2.out, hn]; rfl)
            have HN := Lib.hid hn
            clear hn
            have hn0 : ((n : Int) == 0) = false := by rw [beq_eq_false_iff_ne]; omega
            go_wp2_with (first
              | (go_at_call 30; refine (in_any _ _ _ HI.out).mono ?_; rintro e w' ⟨rfl, rfl⟩; rw [show (⟨#[32, 9, 10, 13]⟩ : ByteArray).data.toList = [32, 9, 10, 13] from rfl, C2.out])
              | (go_at_call 31; rw [← HT.out]; refine (one_any _ _ HTM.out HT0.out).mono ?_; rw [HN.out]; rintro e w2 ⟨rfl, hbn⟩; have hc02 := cell_below hbn hc0 hsz; have hc12 := cell_below hbn hc1 hsz; have hf02 := free_below hbn hf0 hsz; have hf12 := free_below hbn hf1 hsz; have hown2 := ownsRow_below hown hbn; have hsz2 := Nat.le_trans hsz hbn.size)
              | (at_builtin; go_must (refine append_one er23 rfl rfl hown2 rfl rfl rfl (by simp [Value.oneCell']) (by omega) (by omega) hsz2 ?_); intro v' w1 hown1 hg1 hb1 hne1))
            go_roundw
            case rel =>
              refine ⟨acc ++ [(kk, t, line)], line, f', k + n, by omega, by simp; omega, by omega, by omega, by go_num, rfl, by simpa [tokCells] using hown1, hbel.trans ((hbn.mono hsz).trans hb1), Lib.hid ?_⟩
              rw [hP.out, k1.out, addT_one]
            case measure => simp [intOf]; omega
        · have C2 := Lib.hid c2
          clear c2
          cases c3 : ((s[k].toNat : Int) == 10)
          · have k1 : Hid (refL (f'+1) line (s.data.toList.drop k) = refL f' line (s.data.toList.drop (k+1))) := Lib.hid (by
              rw [hd.out]; conv => lhs; unfold refL
              rw [c1, C2.out, c3]; rfl)
            go_wp2_with (first
              | (go_at_call 30; refine (in_any _ _ _ HI.out).mono ?_; rintro e w' ⟨rfl, rfl⟩; rw [show (⟨#[32, 9, 10, 13]⟩ : ByteArray).data.toList = [32, 9, 10, 13] from rfl, C2.out]))
            go_roundw
            case rel =>
              exact ⟨acc, line, f', k + 1, by omega, by omega, by omega, by omega, by go_num, rfl, hown, hbel, Lib.hid (by rw [hP.out, k1.out])⟩
            case measure => simp [intOf]; omega
          · have k1 : Hid (refL (f'+1) line (s.data.toList.drop k) = refL f' (line + 1) (s.data.toList.drop (k+1))) := Lib.hid (by
              rw [hd.out]; conv => lhs; unfold refL
              rw [c1, C2.out, c3]; rfl)
            go_wp2_with (first
              | (go_at_call 30; refine (in_any _ _ _ HI.out).mono ?_; rintro e w' ⟨rfl, rfl⟩; rw [show (⟨#[32, 9, 10, 13]⟩ : ByteArray).data.toList = [32, 9, 10, 13] from rfl, C2.out]))
            go_roundw
            case rel =>
              exact ⟨acc, line + 1, f', k + 1, by omega, by omega, by omega, by omega, by go_num, by go_num, hown, hbel, Lib.hid (by rw [hP.out, k1.out])⟩
            case measure => simp [intOf]; omega
      · obtain ⟨m, hm⟩ : ∃ m, m = spanL notNl (s.data.toList.drop k) := ⟨_, rfl⟩
        have k1 : Hid (refL (f'+1) line (s.data.toList.drop k) = refL f' line (s.data.toList.drop (k+m))) := Lib.hid (by
          rw [← List.drop_drop, hm]
          rw [hd.out]; conv => lhs; unfold refL
          rw [c1]; rfl)
        have hm1 : 1 ≤ m := by
          have hn : notNl s[k] = true := by simp only [beq_iff_eq] at c1; simp [notNl, c1]
          rw [hm, hd.out]; simp [spanL, List.takeWhile, hn]
        have HM := Lib.hid hm
        clear hm
        go_wp2_with fail
        go_loop [6] (fun i => ∃ j : Nat, k + j ≤ s.size ∧ i = .int .i64 (k + j : Nat) ∧ Hid (∀ q (h : q < (s.data.toList.drop k).length), q < j → notNl (s.data.toList.drop k)[q] = true)) (fun i => s.size - (intOf i).toNat)
        case atStart => exact ⟨0, by omega, by go_num, fun _ _ h => absurd h (by omega)⟩
        case round =>
          obtain ⟨j, hj, rfl, hJ⟩ := hrel
          have hdj : ∀ h : k + j < s.size, (s.data.toList.drop k)[j]'(by rw [List.length_drop, ← Lib.size_eq]; omega) = s[k+j] := fun h => by
            rw [List.getElem_drop]; exact data_at s (k+j) h
          have HDJ := Lib.hid hdj
          have hfin : (∀ h : j < (s.data.toList.drop k).length, notNl (s.data.toList.drop k)[j] = false) → m = j := fun h => by
            rw [HM.out]; exact spanL_at _ _ _ (by rw [List.length_drop, ← Lib.size_eq]; omega) hJ.out h
          have HFIN := Lib.hid hfin
          clear hdj hfin
          by_cases hlt2 : k + j < s.size
          · cases hp : ((s[k+j].toNat : Int) != 10)
            · have hmj : m = j := HFIN.out (fun _ => by rw [HDJ.out hlt2]; exact hp)
              have hmj1 : j ≤ m := Nat.le_of_eq hmj.symm
              have hmj2 : m ≤ j := Nat.le_of_eq hmj
              clear hmj
              go_wp2_with fail
              go_roundw
              case rel =>
                exact ⟨acc, line, f', k + m, by omega, by omega, by omega, by omega, by rw [show k + m = k + j by omega]; go_num, rfl, hown, hbel, Lib.hid (by rw [hP.out, k1.out])⟩
              case measure => simp [intOf]; omega
            · go_wp2_with fail
              go_round
              case rel =>
                refine ⟨j + 1, by omega, by go_num, Lib.hid fun q h hq => ?_⟩
                by_cases hqj : q < j
                · exact hJ.out q h hqj
                · obtain rfl : q = j := by omega
                  rw [HDJ.out hlt2]; exact hp
              case measure => simp [intOf]; omega
          · have hmj : m = j := HFIN.out (fun h => absurd h (by rw [List.length_drop, ← Lib.size_eq]; omega))
            have hmj1 : j ≤ m := Nat.le_of_eq hmj.symm
            have hmj2 : m ≤ j := Nat.le_of_eq hmj
            clear hmj
            go_wp2_with fail
            go_roundw
            case rel =>
              exact ⟨acc, line, f', k + m, by omega, by omega, by omega, by omega, by rw [show k + m = k + j by omega]; go_num, rfl, hown, hbel, Lib.hid (by rw [hP.out, k1.out])⟩
            case measure => simp [intOf]; omega
    · have k1 : Hid (refL (f'+1) line (s.data.toList.drop k) = .ok [(5, [], line)]) := Lib.hid (by rw [drop_end s k hlt]; rfl)
      go_wp2_with (first
        | (at_builtin; go_must (refine append_one er23 rfl rfl hown rfl rfl rfl (by simp [Value.oneCell']) (by omega) (by omega) hsz ?_); intro v' w1 hown1 hg1 hb1 hne1; have hc01 := cell_below hb1 hc0 (by simp); have hc11 := cell_below hb1 hc1 (by simp); have hf01 := free_below hb1 hf0 (by simp); have hf11 := free_below hb1 hf1 (by simp)))
      refine bodyPost_ret (v := .tuple #[v', .agg #[.int .i64 0, .int .i64 0]]) (by simp [results, Try.results16, go_sem, hc01, hc11]) rfl ⟨?_, ?_⟩
      · rw [hP.out, k1.out]
        refine ⟨v', rfl, ?_⟩
        refine Go.Joins.ownsRow_le (base := w.heap.size + 1) (ownsRow_setCell_below (ownsRow_setCell_below ?_ (by simp) _) (by simp) _) (by omega)
        simpa [tokCells] using hown1
      · exact Below.setCell (Below.setCell (h0B.trans (hb1.mono (by omega))) (by simp) _) (by simp) _

end Go.Proofs.Ythdcgplocdehjaa

namespace Go.Proofs.Ythdcgplocdehjaa
open Go.RowKit Go.Proofs.Kit

def plainL (l : List UInt8) : Bool := l.all isPrint

set_option maxHeartbeats 1000000 in
theorem plain_any (s : ByteArray) (w : World) (hs : s.size ≤ maxLen) :
    Calls Try.prog 42 #[.string s] w fun e w' => e = .returned (.bool (plainL s.data.toList)) ∧ w = w' := by
  unfold maxLen at hs
  go_enter Try.func42, Try.ntmps42
  go_wp2_with fail
  go_loop [3] (fun i => ∃ k : Nat, k ≤ s.size ∧ i = .int .i64 k ∧ Hid ((s.data.toList.take k).all isPrint = true)) (fun i => s.size - (intOf i).toNat)
  case atStart => exact ⟨0, Nat.zero_le _, rfl, Lib.hid (by simp)⟩
  case round =>
    obtain ⟨k, hk, rfl, hP⟩ := hrel
    by_cases hlt : k < s.size
    · have hts := Lib.hid (take_snoc s k hlt)
      by_cases c1 : (s[k].toNat : Int) < 32
      · have hp : isPrint s[k] = false := by unfold isPrint; simp; omega
        go_wp2_with fail
        go_ret
        exact ⟨ret_bool (by unfold plainL; rw [all_false_at s k hlt isPrint hp]), rfl⟩
      by_cases c2 : 126 < (s[k].toNat : Int)
      · have hp : isPrint s[k] = false := by unfold isPrint; simp; omega
        go_wp2_with fail
        go_ret
        exact ⟨ret_bool (by unfold plainL; rw [all_false_at s k hlt isPrint hp]), rfl⟩
      have hp : isPrint s[k] = true := by unfold isPrint; simp; omega
      go_wp2_with fail
      go_round
      case rel => exact ⟨k + 1, by omega, by go_num, Lib.hid (by rw [hts.out, List.all_append, hP.out]; simpa using hp)⟩
      case measure => simp [intOf]; omega
    · go_wp2_with fail
      go_ret
      refine ⟨ret_bool ?_, rfl⟩
      have := hP.out
      rw [List.take_of_length_le (by rw [← Lib.size_eq]; omega)] at this
      unfold plainL
      exact this.symm

theorem data_app' (a b : ByteArray) : (a ++ b).data.toList = a.data.toList ++ b.data.toList := Go.Joins.data_append a b
theorem ext_one' (s : ByteArray) (k : Nat) (h : k < s.size) : (s.extract k (k+1)).data.toList = [s[k]] := by
  rw [Lib.extract_data, drop_at s k h, show k + 1 - k = 1 by omega]; rfl

theorem ret_sb {s t : ByteArray} {b : Bool} (h' : s = t) : Ending.returned (.tuple #[.string s, .bool b]) = .returned (.tuple #[.string t, .bool b]) := by rw [h']

set_option maxHeartbeats 2000000 in
theorem rquote_any (s : ByteArray) (w : World) (hs : s.size ≤ 1000000) :
    Calls Try.prog 27 #[.string s] w fun e w' => e = .returned (.tuple #[.string ⟨(quoteL s.data.toList).1.toArray⟩, .bool (quoteL s.data.toList).2]) ∧ w = w' := by
  have HM : Hid (s.size ≤ maxLen) := Lib.hid (by unfold maxLen; omega)
  cases hp : plainL s.data.toList
  · have HQ : Hid (quoteL s.data.toList = ([], false)) := Lib.hid (by unfold plainL at hp; unfold quoteL; rw [hp]; rfl)
    have HP := Lib.hid hp
    clear hp
    go_enter Try.func27, Try.ntmps27
    go_wp2_with (go_at_call 42; refine (plain_any _ _ HM.out).mono ?_; rintro e w' ⟨rfl, rfl⟩; rw [HP.out])
    go_ret2
    exact ⟨by rw [HQ.out]; rfl, rfl⟩
  · have HQ : Hid (quoteL s.data.toList = (34 :: escL s.data.toList ++ [34], true)) := Lib.hid (by unfold plainL at hp; unfold quoteL; rw [hp]; rfl)
    have HP := Lib.hid hp
    clear hp
    go_enter Try.func27, Try.ntmps27
    go_wp2_with (go_at_call 42; refine (plain_any _ _ HM.out).mono ?_; rintro e w' ⟨rfl, rfl⟩; rw [HP.out])
    go_loop [4, 5] (fun t i => ∃ k : Nat, ∃ T : ByteArray, k ≤ s.size ∧ T.size ≤ 2 * k + 1 ∧ t = .string T ∧ i = .int .i64 k ∧ Hid (T.data.toList = 34 :: escL (s.data.toList.take k))) (fun _ i => s.size - (intOf i).toNat)
    case atStart => exact ⟨0, ⟨#[34]⟩, by omega, by show 1 ≤ _; omega, rfl, rfl, Lib.hid (by simp [escL])⟩
    case round =>
      obtain ⟨k, T, hk, hT, rfl, rfl, hA⟩ := hrel
      by_cases hlt : k < s.size
      · have hts := Lib.hid (take_snoc s k hlt)
        cases c1 : ((s[k].toNat : Int) == 34 || (s[k].toNat : Int) == 92)
        · have d1 : ((s[k].toNat : Int) == 34) = false := by rw [Bool.or_eq_false_iff] at c1; exact c1.1
          have d2 : ((s[k].toNat : Int) == 92) = false := by rw [Bool.or_eq_false_iff] at c1; exact c1.2
          have C1 := Lib.hid c1
          clear c1
          go_wp2_with fail
          go_round
          case rel =>
            refine ⟨k + 1, T ++ s.extract k (k+1), by omega, ?_, rfl, by go_num, Lib.hid ?_⟩
            · rw [Lib.size_eq, data_app', ext_one' s k hlt, List.length_append, ← Lib.size_eq]; simp; omega
            · rw [data_app', ext_one' s k hlt, hA.out, hts.out, escL_snoc, C1.out]; simp
          case measure => simp [intOf]; omega
        · have C1 := Lib.hid c1
          by_cases d1 : (s[k].toNat : Int) = 34
          · have d1' : ((s[k].toNat : Int) == 34) = true := by simp [d1]
            clear c1 d1
            go_wp2_with fail
            go_round
            case rel =>
              refine ⟨k + 1, T ++ ⟨#[92]⟩ ++ s.extract k (k+1), by omega, ?_, rfl, by go_num, Lib.hid ?_⟩
              · rw [Lib.size_eq, data_app', data_app', ext_one' s k hlt, List.length_append, List.length_append, ← Lib.size_eq]; simp; omega
              · rw [data_app', data_app', ext_one' s k hlt, hA.out, hts.out, escL_snoc, C1.out]; simp
            case measure => simp [intOf]; omega
          · have d1' : ((s[k].toNat : Int) == 34) = false := by rw [beq_eq_false_iff_ne]; exact d1
            have d2' : ((s[k].toNat : Int) == 92) = true := by rw [d1'] at c1; simpa using c1
            clear c1 d1
            go_wp2_with fail
            go_round
            case rel =>
              refine ⟨k + 1, T ++ ⟨#[92]⟩ ++ s.extract k (k+1), by omega, ?_, rfl, by go_num, Lib.hid ?_⟩
              · rw [Lib.size_eq, data_app', data_app', ext_one' s k hlt, List.length_append, List.length_append, ← Lib.size_eq]; simp; omega
              · rw [data_app', data_app', ext_one' s k hlt, hA.out, hts.out, escL_snoc, C1.out]; simp
            case measure => simp [intOf]; omega
      · go_wp2_with fail
        go_ret2
        refine ⟨?_, rfl⟩
        rw [HQ.out]
        refine ret_sb ?_
        rw [← Lib.mk_data (T ++ _), data_app', hA.out, List.take_of_length_le (by rw [← Lib.size_eq]; omega)]

end Go.Proofs.Ythdcgplocdehjaa

namespace Go.Proofs.Ythdcgplocdehjaa
open Go.RowKit Go.Proofs.Kit

def tokEq (lines : Bool) (a b : Tok) : Bool := (a.1 == b.1) && (a.2.1 == b.2.1) && (!lines || ((a.2.2 : Int) == (b.2.2 : Int)))
def eqT (lines : Bool) : List Tok → List Tok → Bool
  | [], [] => true
  | a :: r, b :: t => tokEq lines a b && eqT lines r t
  | _, _ => false

theorem eqT_len (lines : Bool) : ∀ (A B : List Tok), A.length ≠ B.length → eqT lines A B = false
  | [], [], h => absurd rfl h
  | [], _ :: _, _ => rfl
  | _ :: _, [], _ => rfl
  | a :: r, b :: t, h => by unfold eqT; rw [eqT_len lines r t (by simpa using h)]; simp

theorem eqT_drop (lines : Bool) : ∀ (A B : List Tok) (k : Nat), A.length = B.length → (∀ j (h : j < A.length) (h' : j < B.length), j < k → tokEq lines A[j] B[j] = true) →
    eqT lines A B = eqT lines (A.drop k) (B.drop k)
  | A, B, 0, _, _ => rfl
  | [], [], k + 1, _, _ => rfl
  | [], _ :: _, k + 1, h, _ => by simp at h
  | _ :: _, [], k + 1, h, _ => by simp at h
  | a :: r, b :: t, k + 1, h, hh => by
    have h0 := hh 0 (by simp) (by simp) (by omega)
    simp at h0
    rw [List.drop_succ_cons, List.drop_succ_cons, ← eqT_drop lines r t k (by simpa using h) (fun j h1 h2 hj => by have := hh (j+1) (by simp; omega) (by simp; omega) (by omega); simpa using this)]
    conv => lhs; unfold eqT
    rw [h0]; rfl

theorem tokCells_len (x : Tok) : (tokCells x).length = 3 := rfl

end Go.Proofs.Ythdcgplocdehjaa
