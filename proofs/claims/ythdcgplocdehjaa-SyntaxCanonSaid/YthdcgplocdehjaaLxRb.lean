import Derived.Test.YthdcgplocdehjaaLxRa
namespace Go.Proofs.Ythdcgplocdehjaa
open Go.RowKit Go.Proofs.Kit

def noSlash (c : UInt8) : Bool := !((c.toNat : Int) == 47)

def rbareL (l : List UInt8) : Bool :=
  if spanL noSlash l < l.length then numB (l.take (spanL noSlash l)) && numB (l.drop (spanL noSlash l + 1)) else wordB l || numB l

set_option maxHeartbeats 2000000 in
theorem rbare_any (s : ByteArray) (w : World) (hs : s.size ≤ maxLen) :
    Calls Try.prog 62 #[.string s] w fun e w' => e = .returned (.bool (rbareL s.data.toList)) ∧ w = w' := by
  have HS := Lib.hid hs
  unfold maxLen at hs
  go_enter Try.func62, Try.ntmps62
  go_wp2_with fail
  go_loop [3] (fun i => ∃ k : Nat, k ≤ s.size ∧ i = .int .i64 k ∧ Hid (∀ j (h : j < s.data.toList.length), j < k → noSlash s.data.toList[j] = true)) (fun i => s.size - (intOf i).toNat)
  case atStart => exact ⟨0, Nat.zero_le _, rfl, fun _ _ h => absurd h (by omega)⟩
  case round =>
    obtain ⟨k, hk, rfl, hP⟩ := hrel
    by_cases hlt : k < s.size
    · cases hp : ((s[k].toNat : Int) == 47)
      · go_wp2_with fail
        go_round
        case rel =>
          refine ⟨k + 1, by omega, by go_num, fun j h hj => ?_⟩
          by_cases hjk : j < k
          · exact hP.out j h hjk
          · obtain rfl : j = k := by omega
            simp only [Array.getElem_toList, noSlash]; rw [show s.data[j] = s[j] from rfl, hp]; rfl
        case measure => simp [intOf]; omega
      · have K1 : Hid (rbareL s.data.toList = (numB (s.data.toList.take k) && numB (s.data.toList.drop (k + 1)))) := Lib.hid (by
          unfold rbareL
          rw [spanL_at _ _ k (by simpa using hk) hP.out (fun h => by simp only [Array.getElem_toList, noSlash]; rw [show s.data[k] = s[k] from rfl, hp]; rfl), if_pos (by rw [← Lib.size_eq]; exact hlt)])
        have H1 : Hid ((s.extract 0 k).size ≤ maxLen) := Lib.hid (by rw [Lib.size_eq, ext_to, List.length_take]; unfold maxLen; omega)
        have H2 : Hid ((s.extract (k+1) s.size).size ≤ maxLen) := Lib.hid (by rw [Lib.size_eq, ext_from, List.length_drop, ← Lib.size_eq]; unfold maxLen; omega)
        go_wp2_with (first
          | (go_at_call 46; refine (rnumber_any _ _ (by first | (with_reducible exact H1.out) | (with_reducible exact H2.out))).mono ?_; rintro e w' ⟨rfl, rfl⟩; first | rw [ext_to] | rw [ext_from]))
        all_goals
          go_ret
          exact ⟨ret_bool (by rw [K1.out]; simp [*]), rfl⟩
    · have K1 : Hid (rbareL s.data.toList = (wordB s.data.toList || numB s.data.toList)) := Lib.hid (by
          unfold rbareL
          rw [spanL_at _ _ k (by simpa using hk) hP.out (fun h => absurd h (by simpa using hlt)), if_neg (by rw [← Lib.size_eq]; exact hlt)])
      go_wp2_with (first
        | (go_at_call 28; refine (rword_any _ _ HS.out).mono ?_; rintro e w' ⟨rfl, rfl⟩)
        | (go_at_call 46; refine (rnumber_any _ _ HS.out).mono ?_; rintro e w' ⟨rfl, rfl⟩))
      all_goals
        go_ret
        exact ⟨ret_bool (by rw [K1.out]; simp [*]), rfl⟩

theorem data_app (a b : ByteArray) : (a ++ b).data.toList = a.data.toList ++ b.data.toList := Go.Joins.data_append a b
theorem ext_one (s : ByteArray) (k : Nat) (h : k < s.size) : (s.extract k (k+1)).data.toList = [s[k]] := by
  rw [Lib.extract_data, drop_at s k h, show k + 1 - k = 1 by omega]; rfl

/-- What 'str' hands back. -/
def SRet (x : Option (List UInt8 × Nat)) (e : Ending) : Prop := match x with
  | some (t, n) => e = .returned (.tuple #[.string ⟨t.toArray⟩, .int .i64 n])
  | none => e = .returned (.tuple #[.string ⟨#[]⟩, .int .i64 0])

theorem ret_si {k : IntKind} {a b : Int} {s t : ByteArray} (h' : s = t) (h : a = b) : Ending.returned (.tuple #[.string s, .int k a]) = .returned (.tuple #[.string t, .int k b]) := by rw [h, h']

set_option maxHeartbeats 4000000 in
theorem str_any (s : ByteArray) (w : World) (hs : s.size ≤ 140737488351232) :
    Calls Try.prog 47 #[.string s] w fun e w' => SRet (strL s.data.toList) e ∧ w = w' := by
  go_enter Try.func47, Try.ntmps47
  go_wp2_with fail
  go_loop [4, 5] (fun t i => ∃ k : Nat, ∃ T : ByteArray, k ≤ s.size ∧ T.size ≤ k ∧ t = .string T ∧ i = .int .i64 k ∧ Hid (strL s.data.toList = addS T.data.toList k (strL (s.data.toList.drop k)))) (fun _ i => s.size - (intOf i).toNat)
  case atStart => exact ⟨0, ⟨#[]⟩, by omega, by show 0 ≤ 0; omega, rfl, rfl, Lib.hid (by unfold addS; simp)⟩
  case round =>
    obtain ⟨k, T, hk, hT, rfl, rfl, hP⟩ := hrel
    by_cases hlt : k < s.size
    · have hd := Lib.hid (drop_at s k hlt)
      have HDS : Hid (∀ h : k + 1 < s.size, s.data.toList.drop k = s[k] :: s[k+1] :: s.data.toList.drop (k+1+1)) := Lib.hid fun h => by rw [hd.out, drop_at s (k+1) h]
      have HDE : Hid (¬ k + 1 < s.size → s.data.toList.drop k = [s[k]]) := Lib.hid fun h => by rw [hd.out, drop_end s (k+1) h]
      cases c1 : ((s[k].toNat : Int) == 34)
      · by_cases c2 : (s[k].toNat : Int) < 32 ∨ 126 < (s[k].toNat : Int)
        · have hp : isPrint s[k] = false := by unfold isPrint; simp; omega
          have hp2 : ((s[k].toNat : Int) == 92) = false := by rw [beq_eq_false_iff_ne]; omega
          have HF : Hid (SRet (strL s.data.toList) = fun e => e = .returned (.tuple #[.string ⟨#[]⟩, .int .i64 0])) := Lib.hid (by
            funext e; rw [hP.out, hd.out, addS_ctl _ _ _ _ c1 hp2 hp]; rfl)
          clear hp hp2
          rcases c2 with c2 | c2
          · go_wp2_with fail
            go_ret2
            exact ⟨by rw [HF.out]; rfl, rfl⟩
          · go_wp2_with fail
            go_ret2
            exact ⟨by rw [HF.out]; rfl, rfl⟩
        · have c3 : ¬ (s[k].toNat : Int) < 32 := fun h => c2 (.inl h)
          have c4 : ¬ 126 < (s[k].toNat : Int) := fun h => c2 (.inr h)
          have hp : isPrint s[k] = true := by unfold isPrint; simp; omega
          have HP := Lib.hid hp
          clear c2 hp
          cases c5 : ((s[k].toNat : Int) == 92)
          · go_wp2_with fail
            go_round
            case rel =>
              refine ⟨k + 1, T ++ s.extract k (k+1), by omega, ?_, rfl, by go_num, Lib.hid ?_⟩
              · rw [Lib.size_eq, data_app, ext_one s k hlt, List.length_append, ← Lib.size_eq]; simp; omega
              · rw [hP.out, hd.out, addS_plain _ _ _ _ c1 c5 HP.out, data_app, ext_one s k hlt]
            case measure => simp [intOf]; omega
          · go_wp2_with fail
            · have h3 : (s[k+1].toNat : Int) = 34 := by assumption
              go_round
              case rel =>
                refine ⟨k + 2, T ++ s.extract (k+1) (k+1+1), by omega, ?_, rfl, by go_num, Lib.hid ?_⟩
                · rw [Lib.size_eq, data_app, ext_one s (k+1) (by omega), List.length_append, ← Lib.size_eq]; simp; omega
                · rw [hP.out, HDS.out (by omega), addS_esc _ _ _ _ _ c1 c5 (by simp [h3]), data_app, ext_one s (k+1) (by omega)]
              case measure => simp [intOf]; omega
            · have h3 : ¬ (s[k+1].toNat : Int) = 34 := by assumption
              rename_i h4
              have h5 : ¬ (s[k+1].toNat : Int) = 92 := by
                rcases h4 with h4 | h4
                · omega
                · simpa using h4.2
              go_ret2
              refine ⟨?_, rfl⟩
              rw [hP.out, HDS.out (by omega), addS_bad _ _ _ _ _ c1 c5 (by simp [h3, h5])]; rfl
            · have h3 : ¬ (s[k+1].toNat : Int) = 34 := by assumption
              rename_i h4
              have h5 : (s[k+1].toNat : Int) = 92 := by
                rcases h4.2 with h4 | h4
                · exact absurd (by simpa using h4) h3
                · simpa using h4
              go_round
              case rel =>
                refine ⟨k + 2, T ++ s.extract (k+1) (k+1+1), by omega, ?_, rfl, by go_num, Lib.hid ?_⟩
                · rw [Lib.size_eq, data_app, ext_one s (k+1) (by omega), List.length_append, ← Lib.size_eq]; simp; omega
                · rw [hP.out, HDS.out (by omega), addS_esc _ _ _ _ _ c1 c5 (by simp [h5]), data_app, ext_one s (k+1) (by omega)]
              case measure => simp [intOf]; omega
            · go_ret2
              refine ⟨?_, rfl⟩
              rw [hP.out, HDE.out (by omega), addS_end _ _ _ c1 c5]; rfl
      · go_wp2_with fail
        go_ret2
        refine ⟨?_, rfl⟩
        rw [hP.out, hd.out, addS_close _ _ _ _ c1]
        exact ret_si (by rw [Lib.mk_data]) (by omega)
    · go_wp2_with fail
      go_ret2
      refine ⟨?_, rfl⟩
      rw [hP.out, drop_end s k hlt]
      rfl

end Go.Proofs.Ythdcgplocdehjaa
