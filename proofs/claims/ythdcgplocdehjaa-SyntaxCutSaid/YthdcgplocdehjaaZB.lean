import Derived.Test.YthdcgplocdehjaaZA
import Derived.Test.YthdcgplocdehjaaGK
namespace Go.Proofs.Ythdcgplocdehjaa
open Go.RowKit Go.Proofs.Kit

theorem er32 : ElemRow Try.prog 71 5 (.int .u8 0) 1 1 := ⟨Try.underlying71, by kernel_rfl, rfl, by decide⟩

/-- A string token behind its opening quote: what it stands for, and how many bytes it takes with the closing quote. -/
def strL : List UInt8 → Option (List UInt8 × Nat)
  | [] => none
  | c :: r =>
    if (c.toNat : Int) == 34 then some ([], 1)
    else if (c.toNat : Int) == 92 then
      match r with
      | [] => none
      | d :: r' => if (d.toNat : Int) == 34 || (d.toNat : Int) == 92 then (strL r').map fun (t, n) => (d :: t, n + 2) else none
    else if isPrint c then (strL r).map fun (t, n) => (c :: t, n + 1) else none

def addS (acc : List UInt8) (k : Nat) (x : Option (List UInt8 × Nat)) : Option (List UInt8 × Nat) := x.map fun (t, n) => (acc ++ t, n + k)

theorem addS_close (acc : List UInt8) (k : Nat) (c : UInt8) (r : List UInt8) (h : ((c.toNat : Int) == 34) = true) : addS acc k (strL (c :: r)) = some (acc, k + 1) := by
  unfold strL; simp [addS, h]; omega
theorem addS_esc (acc : List UInt8) (k : Nat) (c d : UInt8) (r : List UInt8) (h0 : ((c.toNat : Int) == 34) = false) (h : ((c.toNat : Int) == 92) = true) (hd : ((d.toNat : Int) == 34 || (d.toNat : Int) == 92) = true) :
    addS acc k (strL (c :: d :: r)) = addS (acc ++ [d]) (k + 2) (strL r) := by
  conv => lhs; unfold strL
  simp only [h0, h, hd, if_true, Bool.false_eq_true, if_false]
  unfold addS
  cases strL r with
  | none => rfl
  | some x => simp; omega
theorem addS_bad (acc : List UInt8) (k : Nat) (c d : UInt8) (r : List UInt8) (h0 : ((c.toNat : Int) == 34) = false) (h : ((c.toNat : Int) == 92) = true) (hd : ((d.toNat : Int) == 34 || (d.toNat : Int) == 92) = false) :
    addS acc k (strL (c :: d :: r)) = none := by
  unfold strL
  simp only [h0, h, hd, if_true, Bool.false_eq_true, if_false]; rfl
theorem addS_end (acc : List UInt8) (k : Nat) (c : UInt8) (h0 : ((c.toNat : Int) == 34) = false) (h : ((c.toNat : Int) == 92) = true) :
    addS acc k (strL [c]) = none := by
  unfold strL
  simp only [h0, h, if_true, Bool.false_eq_true, if_false]; rfl
theorem addS_plain (acc : List UInt8) (k : Nat) (c : UInt8) (r : List UInt8) (h0 : ((c.toNat : Int) == 34) = false) (h : ((c.toNat : Int) == 92) = false) (hp : isPrint c = true) :
    addS acc k (strL (c :: r)) = addS (acc ++ [c]) (k + 1) (strL r) := by
  conv => lhs; unfold strL
  simp only [h0, h, hp, if_true, Bool.false_eq_true, if_false]
  unfold addS
  cases strL r with
  | none => rfl
  | some x => simp; omega
theorem addS_ctl (acc : List UInt8) (k : Nat) (c : UInt8) (r : List UInt8) (h0 : ((c.toNat : Int) == 34) = false) (h : ((c.toNat : Int) == 92) = false) (hp : isPrint c = false) :
    addS acc k (strL (c :: r)) = none := by
  unfold strL
  simp only [h0, h, hp, Bool.false_eq_true, if_false]; rfl

theorem ret_is {k : IntKind} {a b : Int} {s : ByteArray} (h : a = b) : Ending.returned (.tuple #[.int k a, .string s]) = .returned (.tuple #[.int k b, .string s]) := by rw [h]

/-- What 'quoted' hands back. -/
def QRet (x : Option (List UInt8 × Nat)) (e : Ending) : Prop := match x with
  | some (t, n) => e = .returned (.tuple #[.int .i64 (n + 1 : Nat), .string ⟨t.toArray⟩])
  | none => e = .returned (.tuple #[.int .i64 0, .string ⟨#[]⟩])

set_option maxHeartbeats 2000000 in
theorem quoted_any (s : ByteArray) (w : World) (hs : s.size ≤ 140737488351232) (h0 : 0 < s.size) :
    Calls Try.prog 55 #[.string s] w fun e w' => QRet (strL (s.data.toList.drop 1)) e ∧ Below w.heap.size w w' := by
  go_enter Try.func55, Try.ntmps55
  go_wp2
  go_loopw [4, 5] (fun v i wr => ∃ k : Nat, ∃ acc : List UInt8, 1 ≤ k ∧ k ≤ s.size ∧ acc.length ≤ k ∧ i = .int .i64 k ∧ wr.ownsRow w.heap.size 5 1 v acc.length (acc.map byteV) ∧ Below w.heap.size w wr ∧
      Hid (strL (s.data.toList.drop 1) = addS acc (k - 1) (strL (s.data.toList.drop k)))) (fun _ i _ => s.size - (intOf i).toNat)
  case atStart => exact ⟨1, [], by omega, by omega, by simp, rfl, World.ownsRow_nil _ _ _ _, Below.refl _ _, Lib.hid (by unfold addS; cases strL (List.drop 1 s.data.toList) <;> simp)⟩
  case round =>
    obtain ⟨k, acc, hk1, hk, hal, rfl, hown, hbel, hP⟩ := hrel
    by_cases hlt : k < s.size
    · have hd := Lib.hid (drop_at s k hlt)
      have hconv : ∀ n, (convert 71 9 u4).run Try.prog (wr.drewN n) = .ok (.string ⟨acc.toArray⟩) (wr.drewN n) := fun n =>
        string_of_owned 71 9 Try.underlying71 Try.underlying5 Try.underlying9 (w := wr.drewN n) hown
      have hds : ∀ h : k + 1 < s.size, Hid (s.data.toList.drop k = s[k] :: s[k+1] :: s.data.toList.drop (k+1+1)) := fun h => Lib.hid (by rw [hd.out, drop_at s (k+1) h])
      have hde : ¬ k + 1 < s.size → Hid (s.data.toList.drop k = [s[k]]) := fun h => Lib.hid (by rw [hd.out, drop_end s (k+1) h])
      have HDS := Lib.hid hds
      have HDE := Lib.hid hde
      clear hds hde
      go_wp2_with (first
        | (go_at_call 39; refine (printable_any _ _).mono ?_; rintro e w' ⟨rfl, rfl⟩)
        | (at_builtin; refine append_one er32 rfl rfl hown rfl rfl rfl (by simp [Value.oneCell']) (by omega) (by omega) hbel.size ?_; intro v' w1 hown1 hg1 hb1 hne1))
      · have h1 : ((s[k].toNat : Int) == 34) = true := by assumption
        go_quiet (fail)
        go_wp2
        go_ret2
        refine ⟨?_, ?_⟩
        · rw [hP.out, hd.out, addS_close _ _ _ _ h1]
          exact ret_is (by omega)
        · exact below_drewN hbel _
      · have h1 : ((s[k].toNat : Int) == 34) = false := by assumption
        have h2 : ((s[k].toNat : Int) == 92) = true := by assumption
        go_ret2
        refine ⟨?_, hbel⟩
        rw [hP.out, (HDE.out (by omega)).out, addS_end _ _ _ h1 h2]; rfl
      · have h1 : ((s[k].toNat : Int) == 34) = false := by assumption
        have h2 : ((s[k].toNat : Int) == 92) = true := by assumption
        have h3 : (s[k+1].toNat : Int) = 34 := by assumption
        go_roundw
        case rel =>
          refine ⟨k + 2, acc ++ [s[k+1]], by omega, by omega, by simp; omega, by go_num, by simpa [byteV, h3] using hown1, hbel.trans hb1, Lib.hid ?_⟩
          rw [hP.out, (HDS.out (by omega)).out, addS_esc _ _ _ _ _ h1 h2 (by simp [h3])]
          congr 1; omega
        case measure => simp [intOf]; omega
      · have h1 : ((s[k].toNat : Int) == 34) = false := by assumption
        have h2 : ((s[k].toNat : Int) == 92) = true := by assumption
        have h3 : ¬ (s[k+1].toNat : Int) = 34 := by assumption
        rename_i h4
        have h5 : ¬ (s[k+1].toNat : Int) = 92 := by
          rcases h4 with h4 | h4
          · simp only [beq_iff_eq] at h4; omega
          · simpa using h4.2
        go_ret2
        refine ⟨?_, hbel⟩
        rw [hP.out, (HDS.out (by omega)).out, addS_bad _ _ _ _ _ h1 h2 (by simp [h3, h5])]; rfl
      · have h1 : ((s[k].toNat : Int) == 34) = false := by assumption
        have h2 : ((s[k].toNat : Int) == 92) = true := by assumption
        have h3 : ¬ (s[k+1].toNat : Int) = 34 := by assumption
        have h4 : (↑k + 1 == (s.size : Int)) = false ∧ (((s[k + 1].toNat : Int) != 34) = false ∨ ((s[k + 1].toNat : Int) != 92) = false) := by assumption
        have h5 : (s[k+1].toNat : Int) = 92 := by
          rcases h4.2 with h4 | h4
          · exact absurd (by simpa using h4) h3
          · simpa using h4
        go_roundw
        case rel =>
          refine ⟨k + 2, acc ++ [s[k+1]], by omega, by omega, by simp; omega, by go_num, by simpa [byteV, h5] using hown1, hbel.trans hb1, Lib.hid ?_⟩
          rw [hP.out, (HDS.out (by omega)).out, addS_esc _ _ _ _ _ h1 h2 (by simp [h5])]
          congr 1; omega
        case measure => simp [intOf]; omega
      · have h1 : ((s[k].toNat : Int) == 34) = false := by assumption
        have h2 : ((s[k].toNat : Int) == 92) = false := by assumption
        have h3 : (!isPrint s[k]) = true := by assumption
        go_ret2
        refine ⟨?_, hbel⟩
        rw [hP.out, hd.out, addS_ctl _ _ _ _ h1 h2 (by simpa using h3)]; rfl
      · have h1 : ((s[k].toNat : Int) == 34) = false := by assumption
        have h2 : ((s[k].toNat : Int) == 92) = false := by assumption
        have h3 : (!isPrint s[k]) = false := by assumption
        go_roundw
        case rel =>
          refine ⟨k + 1, acc ++ [s[k]], by omega, by omega, by simp; omega, by go_num, by simpa [byteV] using hown1, hbel.trans hb1, Lib.hid ?_⟩
          rw [hP.out, hd.out, addS_plain _ _ _ _ h1 h2 (by simpa using h3)]
          congr 1; omega
        case measure => simp [intOf]; omega
    · go_wp2
      go_ret2
      refine ⟨?_, hbel⟩
      rw [hP.out, drop_end s k hlt]; rfl

end Go.Proofs.Ythdcgplocdehjaa

namespace Go.Proofs.Ythdcgplocdehjaa
open Go.RowKit Go.Proofs.Kit

def isMark (c : UInt8) : Bool := decide (0 ≤ Lib.indexByte [123, 125, 59, 44, 47] c)

def nextL (l : List UInt8) : Option (Int × List UInt8 × Nat) :=
  if 0 < wordL l then some (1, l.take (wordL l), wordL l)
  else if 0 < numL l then some (2, l.take (numL l), numL l)
  else match l with
    | [] => none
    | c :: r => if (c.toNat : Int) == 34 then (strL r).map fun (t, n) => (3, t, n + 1) else if isMark c then some (4, [c], 1) else none

def NRet (x : Option (Int × List UInt8 × Nat)) (e : Ending) : Prop := match x with
  | some (k, t, n) => e = .returned (.tuple #[.int .i64 k, .string ⟨t.toArray⟩, .int .i64 n])
  | none => ∃ k, e = .returned (.tuple #[.int .i64 k, .string ⟨#[]⟩, .int .i64 0])

set_option maxHeartbeats 2000000 in
theorem next_any (s : ByteArray) (w : World) (hs : s.size ≤ 140737488351232) (h0 : 0 < s.size) :
    Calls Try.prog 34 #[.string s] w fun e w' => NRet (nextL s.data.toList) e ∧ Below w.heap.size w w' := by
  have hsm : s.size ≤ maxLen := by unfold maxLen; omega
  have HSM := Lib.hid hsm
  clear hsm
  obtain ⟨a, ha⟩ : ∃ a, a = wordL s.data.toList := ⟨_, rfl⟩
  obtain ⟨b, hb⟩ : ∃ b, b = numL s.data.toList := ⟨_, rfl⟩
  have ha' : a ≤ s.size := by rw [ha, Lib.size_eq]; exact wordL_le _
  have hb' : b ≤ s.size := by rw [hb, Lib.size_eq]; exact numL_le _
  obtain ⟨r, hr⟩ := data_cons s h0
  have HR := Lib.hid hr
  have HRL : Hid (s.data.toList.drop 1 = r) := by rw [hr]; exact Lib.hid rfl
  have key : nextL s.data.toList = if 0 < a then some ((1:Int), s.data.toList.take a, a) else if 0 < b then some (2, s.data.toList.take b, b)
      else if (s[0].toNat : Int) == 34 then (strL r).map fun (t, n) => ((3:Int), t, n + 1) else if isMark s[0] then some ((4:Int), [s[0]], 1) else none := by
    unfold nextL; rw [← ha, ← hb]
    split; rfl
    split; rfl
    rw [hr]
  have KEY := Lib.hid key
  have HA := Lib.hid ha
  have HB := Lib.hid hb
  have hx : ∀ n, s.extract 0 n = ⟨(s.data.toList.take n).toArray⟩ := fun n => by rw [Lib.extract_eq, List.drop_zero, Nat.sub_zero]
  have HX := Lib.hid hx
  clear hr key ha hb hx
  by_cases c1 : 0 < a
  · go_enter Try.func34, Try.ntmps34
    go_wp2_with (go_at_call 53; refine (word_any _ _ HSM.out).mono ?_; rintro e w' ⟨rfl, rfl⟩; rw [← HA.out])
    go_quiet (fail)
    go_wp2
    go_ret3
    refine ⟨?_, below_drewN (Below.refl _ _) _⟩
    rw [KEY.out, if_pos c1]
    show Ending.returned (.tuple #[_, .string _, _]) = _
    rw [HX.out]
    rfl
  by_cases c2 : 0 < b
  · go_enter Try.func34, Try.ntmps34
    go_wp2_with (first
      | (go_at_call 53; refine (word_any _ _ HSM.out).mono ?_; rintro e w' ⟨rfl, rfl⟩; rw [← HA.out])
      | (go_at_call 54; refine (number_any _ _ HSM.out).mono ?_; rintro e w' ⟨rfl, rfl⟩; rw [← HB.out]))
    go_quiet (fail)
    go_wp2
    go_ret3
    refine ⟨?_, below_drewN (Below.refl _ _) _⟩
    rw [KEY.out, if_neg c1, if_pos c2]
    show Ending.returned (.tuple #[_, .string _, _]) = _
    rw [HX.out]
    rfl
  have KEY2 : Hid (nextL s.data.toList = if (s[0].toNat : Int) == 34 then (strL r).map fun (t, n) => ((3:Int), t, n + 1) else if isMark s[0] then some ((4:Int), [s[0]], 1) else none) := by
    have := KEY.out; rw [if_neg c1, if_neg c2] at this; exact this
  clear KEY
  cases c3 : ((s[0].toNat : Int) == 34)
  · have KEY3 : Hid (nextL s.data.toList = if isMark s[0] then some ((4:Int), [s[0]], 1) else none) := by
      have := KEY2.out; rw [c3] at this; exact this
    have hmk : isMark s[0] = decide (0 ≤ Lib.indexByte [123, 125, 59, 44, 47] (Int.toNat (s[0].toNat : Int)).toUInt8) := by
      unfold isMark
      have : (Int.toNat (s[0].toNat : Int)).toUInt8 = s[0] := by simp
      rw [this]; rfl
    have HMK := Lib.hid hmk
    obtain ⟨x, hx⟩ : ∃ x, x = Lib.indexByte [123, 125, 59, 44, 47] (Int.toNat (s[0].toNat : Int)).toUInt8 := ⟨_, rfl⟩
    rw [← hx] at hmk
    have HXX := Lib.hid hx
    clear hx
    by_cases c4 : 0 ≤ x
    · have hmk1 : Hid (isMark s[0] = true) := Lib.hid (by rw [hmk]; simp [c4])
      clear hmk
      go_enter Try.func34, Try.ntmps34
      go_wp2_with (first
        | (go_at_call 53; refine (word_any _ _ HSM.out).mono ?_; rintro e w' ⟨rfl, rfl⟩; rw [← HA.out])
        | (go_at_call 54; refine (number_any _ _ HSM.out).mono ?_; rintro e w' ⟨rfl, rfl⟩; rw [← HB.out])
        | (go_at_call 56; refine (Try.strings_IndexByte _ _ _).mono ?_; rintro e w' ⟨rfl, rfl⟩; rw [← HXX.out]))
      go_quiet (fail)
      go_wp2
      go_ret3
      refine ⟨?_, below_drewN (Below.refl _ _) _⟩
      rw [KEY3.out, hmk1.out, if_pos rfl]
      show Ending.returned (.tuple #[_, .string _, _]) = _
      rw [HX.out, HR.out]
      rfl
    · have hmk1 : Hid (isMark s[0] = false) := Lib.hid (by rw [hmk]; simp; omega)
      clear hmk
      go_enter Try.func34, Try.ntmps34
      go_wp2_with (first
        | (go_at_call 53; refine (word_any _ _ HSM.out).mono ?_; rintro e w' ⟨rfl, rfl⟩; rw [← HA.out])
        | (go_at_call 54; refine (number_any _ _ HSM.out).mono ?_; rintro e w' ⟨rfl, rfl⟩; rw [← HB.out])
        | (go_at_call 56; refine (Try.strings_IndexByte _ _ _).mono ?_; rintro e w' ⟨rfl, rfl⟩; rw [← HXX.out]))
      go_ret3
      refine ⟨?_, Below.refl _ _⟩
      rw [KEY3.out, hmk1.out]
      exact ⟨_, rfl⟩
  · have KEY3 : Hid (nextL s.data.toList = (strL r).map fun (t, n) => ((3:Int), t, n + 1)) := by
      have := KEY2.out; rw [c3] at this; exact this
    clear KEY2
    go_enter Try.func34, Try.ntmps34
    cases hq : strL r with
    | none =>
      have HQ := Lib.hid hq
      clear hq
      go_wp2_with (first
        | (go_at_call 53; refine (word_any _ _ HSM.out).mono ?_; rintro e w' ⟨rfl, rfl⟩; rw [← HA.out])
        | (go_at_call 54; refine (number_any _ _ HSM.out).mono ?_; rintro e w' ⟨rfl, rfl⟩; rw [← HB.out])
        | (go_at_call 55; refine (quoted_any _ _ hs h0).mono ?_; rw [HRL.out, HQ.out]; rintro e w' ⟨rfl, hbq⟩))
      go_ret3
      refine ⟨?_, hbq⟩
      rw [KEY3.out, HQ.out]
      exact ⟨_, rfl⟩
    | some x =>
      obtain ⟨t, n⟩ := x
      have HQ := Lib.hid hq
      clear hq
      go_wp2_with (first
        | (go_at_call 53; refine (word_any _ _ HSM.out).mono ?_; rintro e w' ⟨rfl, rfl⟩; rw [← HA.out])
        | (go_at_call 54; refine (number_any _ _ HSM.out).mono ?_; rintro e w' ⟨rfl, rfl⟩; rw [← HB.out])
        | (go_at_call 55; refine (quoted_any _ _ hs h0).mono ?_; rw [HRL.out, HQ.out]; rintro e w' ⟨rfl, hbq⟩))
      go_ret3
      refine ⟨?_, hbq⟩
      rw [KEY3.out, HQ.out]
      rfl

end Go.Proofs.Ythdcgplocdehjaa

namespace Go.Proofs.Ythdcgplocdehjaa
open Go.RowKit Go.Proofs.Kit

theorem er23 : ElemRow Try.prog 43 47 (.agg #[.int .i64 0, .string ⟨#[]⟩, .int .i64 0]) 3 32 := ⟨Try.underlying43, by kernel_rfl, rfl, by decide⟩

abbrev Tok := Int × List UInt8 × Nat
def tokCells (x : Tok) : List Value := [.int .i64 x.1, .string ⟨x.2.1.toArray⟩, .int .i64 x.2.2]

def lexL : Nat → Nat → List UInt8 → Except Nat (List Tok)
  | 0, line, _ => .error line
  | f + 1, line, l =>
    if (l.drop (skipF false l)).length = 0 then .ok [(5, [], line + (l.take (skipF false l)).count 10)]
    else match nextL (l.drop (skipF false l)) with
      | none => .error (line + (l.take (skipF false l)).count 10)
      | some (k, t, n) => (lexL f (line + (l.take (skipF false l)).count 10) ((l.drop (skipF false l)).drop n)).map fun r => (k, t, line + (l.take (skipF false l)).count 10) :: r

theorem strL_len : ∀ (m : Nat) (l t : List UInt8) (n : Nat), l.length ≤ m → strL l = some (t, n) → 1 ≤ n ∧ n ≤ l.length := by
  intro m
  induction m with
  | zero => intro l t n hl h; cases l with
    | nil => simp [strL] at h
    | cons a r => simp at hl
  | succ m ih =>
    intro l t n hl h
    cases l with
    | nil => simp [strL] at h
    | cons c r =>
      unfold strL at h
      split at h
      · simp at h; simp; omega
      · split at h
        · cases r with
          | nil => simp at h
          | cons d r' =>
            simp only [] at h
            split at h
            · cases hs : strL r' with
              | none => rw [hs] at h; simp at h
              | some x =>
                rw [hs] at h; simp at h
                have := ih r' x.1 x.2 (by simp at hl; omega) hs
                simp; omega
            · simp at h
        · split at h
          · cases hs : strL r with
            | none => rw [hs] at h; simp at h
            | some x =>
              rw [hs] at h; simp at h
              have := ih r x.1 x.2 (by simp at hl; omega) hs
              simp; omega
          · simp at h

theorem nextL_len {l t : List UInt8} {k : Int} {n : Nat} (h : nextL l = some (k, t, n)) : 1 ≤ n ∧ n ≤ l.length := by
  unfold nextL at h
  have h1 := wordL_le l
  have h2 := numL_le l
  split at h
  · simp at h; omega
  · split at h
    · simp at h; omega
    · split at h
      · simp at h
      · split at h
        · rename_i c r _ _ _
          cases hs : strL r with
          | none => rw [hs] at h; simp at h
          | some x =>
            rw [hs] at h; simp at h
            have := strL_len _ r x.1 x.2 (Nat.le_refl _) hs
            simp; omega
        · split at h
          · simp at h; simp; omega
          · simp at h

def addT (acc : List Tok) (x : Except Nat (List Tok)) : Except Nat (List Tok) := x.map (acc ++ ·)

theorem addT_one (acc : List Tok) (t : Tok) (x : Except Nat (List Tok)) : addT acc (x.map (t :: ·)) = addT (acc ++ [t]) x := by
  cases x <;> simp [addT, Except.map]

/-- What 'All' hands back. -/
def ARet (B : Nat) (x : Except Nat (List Tok)) (e : Ending) (w' : World) : Prop := match x with
  | .ok l => ∃ v, e = .returned (.tuple #[v, .agg #[.int .i64 0, .int .i64 0]]) ∧ w'.ownsRow B 47 3 v l.length (l.flatMap tokCells)
  | .error n => e = .returned (.tuple #[.slice none 0 0, .agg #[.int .i64 1, .int .i64 n]])

def strSz : Value → Nat | .string S => S.size | _ => 0

theorem below_next {B : Nat} {w w' : World} (h : Below w.heap.size w w') (hB : B ≤ w.heap.size) : Below B w w' := h.mono hB

set_option maxHeartbeats 4000000 in
theorem all_any (s : ByteArray) (w : World) (hs : s.size ≤ 20000) :
    Calls Try.prog 17 #[.string s] w fun e w' => ARet w.heap.size (lexL (s.size + 1) 1 s.data.toList) e w' ∧ Below w.heap.size w w' := by
  go_enter Try.func17, Try.ntmps17
  go_wp2_with fail
  go_loopw [0, 4, 5] (fun tx v i wr => ∃ S : ByteArray, ∃ acc : List Tok, ∃ line f : Nat, tx = .string S ∧ S.size ≤ s.size ∧ acc.length + S.size ≤ s.size ∧ line + S.size ≤ s.size + 1 ∧ S.size < f ∧ i = .int .i64 line ∧
      wr.ownsRow (w.heap.size + 1) 47 3 v acc.length (acc.flatMap tokCells) ∧ Below (w.heap.size + 1) (w.alloc (.cells #[.int .i64 0, .int .i64 0] 27)) wr ∧
      Hid (lexL (s.size + 1) 1 s.data.toList = addT acc (lexL f line S.data.toList))) (fun tx _ _ _ => strSz tx)
  case atStart =>
    exact ⟨s, [], 1, s.size + 1, rfl, by omega, by simp, by omega, by omega, rfl, World.ownsRow_nil _ _ _ _, Below.refl _ _, Lib.hid (by cases lexL (s.size + 1) 1 s.data.toList <;> simp [addT, Except.map])⟩
  case round =>
    obtain ⟨S, acc, line, f, rfl, hSs, hac, hli, hf, rfl, hown, hbel, hP⟩ := hrel
    have hm : S.size ≤ maxLen := by unfold maxLen; omega
    have HM := Lib.hid hm
    obtain ⟨b, hb⟩ : ∃ b, b = skipF false S.data.toList := ⟨_, rfl⟩
    have hbl : b ≤ S.size := by rw [hb, Lib.size_eq]; exact skipF_le _ _
    obtain ⟨c, hc⟩ : ∃ c, c = (S.data.toList.take b).count 10 := ⟨_, rfl⟩
    have hcl : c ≤ b := by rw [hc]; exact Nat.le_trans List.count_le_length (by rw [List.length_take]; omega)
    have HB := Lib.hid hb
    have HC : Hid (c = Lib.countByte (S.extract 0 b).data.toList 10) := Lib.hid (by rw [ext_to]; exact hc)
    clear hm hb hc
    obtain ⟨T, hT⟩ : ∃ T, T = S.extract b S.size := ⟨_, rfl⟩
    have hTd : T.data.toList = S.data.toList.drop b := by rw [hT, ext_from]
    have hTs : T.size = S.size - b := by rw [Lib.size_eq, hTd, List.length_drop, ← Lib.size_eq]
    have hsz : w.heap.size + 1 ≤ wr.heap.size := by have := hbel.size; simpa using this
    have hf0 : wr.frozen? ⟨w.heap.size, 0, none⟩ = false := by rw [hbel.frozen (by simp)]; simp
    have hf1 : wr.frozen? ⟨w.heap.size, 1, none⟩ = false := by rw [hbel.frozen (by simp)]; simp
    have hc0 : wr.cell? ⟨w.heap.size, 0, none⟩ = some (.int .i64 0) := by rw [hbel.cell (by simp)]; simp
    have hc1 : wr.cell? ⟨w.heap.size, 1, none⟩ = some (.int .i64 0) := by rw [hbel.cell (by simp)]; simp
    have h0B : Below w.heap.size w wr := ((Below.refl w.heap.size w).alloc (Nat.le_refl _) _).trans (hbel.mono (by omega))
    by_cases h0 : 0 < T.size
    · have hE : (S.extract b S.size).toList.isEmpty = false := by rw [← hT]; exact bempty_f _ h0
      have HT := Lib.hid hT
      have HTd := Lib.hid hTd
      have HTs := Lib.hid hTs
      clear hT hTd hTs
      go_wp2_with (first
        | (go_at_call 32; refine (skip_any _ _ HM.out).mono ?_; rintro e w' ⟨rfl, rfl⟩; rw [← HB.out])
        | (go_at_call 33; refine (Try.strings_Count_one _ _ _).mono ?_; rintro e w' ⟨rfl, rfl⟩; rw [← HC.out]))
      have HTM : Hid (T.size ≤ 140737488351232) := Lib.hid (by rw [HTs.out]; omega)
      cases hn : nextL T.data.toList with
      | none =>
        have k1 : Hid (lexL f line S.data.toList = .error (line + c)) := by
          obtain ⟨f', rfl⟩ : ∃ f', f = f' + 1 := ⟨f - 1, by omega⟩
          unfold lexL
          rw [← HB.out, ← HTd.out, if_neg (by rw [← Lib.size_eq]; omega), hn]
          simp only []
          rw [show c = (S.data.toList.take b).count 10 by rw [HC.out, ext_to]; rfl]; exact Lib.hid rfl
        have HN := Lib.hid hn
        clear hn
        rw [← HT.out]
        go_wp2_with (go_at_call 34; refine (next_any _ _ HTM.out h0).mono ?_; rw [HN.out]; rintro e w2 ⟨⟨kk, rfl⟩, hbn⟩; have hc02 := cell_below hbn hc0 hsz; have hc12 := cell_below hbn hc1 hsz; have hf02 := free_below hbn hf0 hsz; have hf12 := free_below hbn hf1 hsz)
        refine bodyPost_ret (v := .tuple #[.slice none 0 0, .agg #[.int .i64 1, .int .i64 (line + c : Nat)]]) (by simp [results, Try.results17, go_sem, hc02, hc12]) rfl ⟨?_, ?_⟩
        · rw [hP.out, k1.out]
          rfl
        · exact Below.setCell (Below.setCell (h0B.trans (hbn.mono (by omega))) (by simp) _) (by simp) _
      | some x =>
        obtain ⟨kk, t, n⟩ := x
        have hnl := nextL_len hn
        rw [← Lib.size_eq] at hnl
        have k1 : Hid (lexL f line S.data.toList = (lexL (f - 1) (line + c) (T.data.toList.drop n)).map fun r => (kk, t, line + c) :: r) := by
          obtain ⟨f', rfl⟩ : ∃ f', f = f' + 1 := ⟨f - 1, by omega⟩
          conv => arg 1; lhs; unfold lexL
          rw [← HB.out, ← HTd.out, if_neg (by rw [← Lib.size_eq]; omega), hn]
          simp only []
          rw [show c = (S.data.toList.take b).count 10 by rw [HC.out, ext_to]; rfl]; exact Lib.hid rfl
        have HN := Lib.hid hn
        have hTs1 : T.size ≤ S.size - b := Nat.le_of_eq HTs.out
        have hTs2 : S.size - b ≤ T.size := Nat.le_of_eq HTs.out.symm
        clear hn
        rw [← HT.out]
        go_wp2_with (first
          | (go_at_call 34; refine (next_any _ _ HTM.out h0).mono ?_; rw [HN.out]; rintro e w2 ⟨rfl, hbn⟩; have hc02 := cell_below hbn hc0 hsz; have hc12 := cell_below hbn hc1 hsz; have hf02 := free_below hbn hf0 hsz; have hf12 := free_below hbn hf1 hsz; have hown2 := ownsRow_below hown hbn; have hsz2 := Nat.le_trans hsz hbn.size)
          | (at_builtin; go_must (refine append_one er23 rfl rfl hown2 rfl rfl rfl (by simp [Value.oneCell']) (by omega) (by omega) hsz2 ?_); intro v' w1 hown1 hg1 hb1 hne1))
        go_roundw
        case rel =>
          refine ⟨T.extract n T.size, acc ++ [(kk, t, line + c)], line + c, f - 1, rfl, ?_, ?_, ?_, ?_, by go_num, by simpa [tokCells] using hown1, hbel.trans ((hbn.mono hsz).trans hb1), Lib.hid ?_⟩
          · rw [Lib.size_eq, ext_from, List.length_drop, ← Lib.size_eq]; omega
          · rw [Lib.size_eq, ext_from, List.length_drop, ← Lib.size_eq, List.length_append, List.length_singleton]; omega
          · rw [Lib.size_eq, ext_from, List.length_drop, ← Lib.size_eq]; omega
          · rw [Lib.size_eq, ext_from, List.length_drop, ← Lib.size_eq]; omega
          · rw [hP.out, k1.out, addT_one, ext_from]
        case measure =>
          simp only [strSz]
          show (T.extract n T.size).size < S.size
          rw [Lib.size_eq, ext_from, List.length_drop, ← Lib.size_eq]; omega
    · have hE : (S.extract b S.size).toList.isEmpty = true := by rw [← hT]; exact bempty_t _ h0
      have k1 : Hid (lexL f line S.data.toList = .ok [(5, [], line + c)]) := by
        obtain ⟨f', rfl⟩ : ∃ f', f = f' + 1 := ⟨f - 1, by omega⟩
        unfold lexL
        rw [← HB.out, ← hTd, if_pos (by rw [← Lib.size_eq]; omega)]
        rw [show c = (S.data.toList.take b).count 10 by rw [HC.out, ext_to]; rfl]; exact Lib.hid rfl
      have HT := Lib.hid hT
      have HTd := Lib.hid hTd
      have HTs := Lib.hid hTs
      clear hT hTd hTs
      go_wp2_with (first
        | (go_at_call 32; refine (skip_any _ _ HM.out).mono ?_; rintro e w' ⟨rfl, rfl⟩; rw [← HB.out])
        | (go_at_call 33; refine (Try.strings_Count_one _ _ _).mono ?_; rintro e w' ⟨rfl, rfl⟩; rw [← HC.out])
        | (at_builtin; go_must (refine append_one er23 rfl rfl hown rfl rfl rfl (by simp [Value.oneCell']) (by omega) (by omega) hsz ?_); intro v' w1 hown1 hg1 hb1 hne1; have hc01 := cell_below hb1 hc0 (by simp); have hc11 := cell_below hb1 hc1 (by simp); have hf01 := free_below hb1 hf0 (by simp); have hf11 := free_below hb1 hf1 (by simp)))
      refine bodyPost_ret (v := .tuple #[v', .agg #[.int .i64 0, .int .i64 0]]) (by simp [results, Try.results17, go_sem, hc01, hc11]) rfl ⟨?_, ?_⟩
      · rw [hP.out, k1.out]
        refine ⟨v', rfl, ?_⟩
        refine Go.Joins.ownsRow_le (base := w.heap.size + 1) (ownsRow_setCell_below (ownsRow_setCell_below ?_ (by simp) _) (by simp) _) (by omega)
        simpa [tokCells] using hown1
      · exact Below.setCell (Below.setCell (h0B.trans (hb1.mono (by omega))) (by simp) _) (by simp) _

end Go.Proofs.Ythdcgplocdehjaa

namespace Go.Proofs.Ythdcgplocdehjaa
open Go.RowKit Go.Proofs.Kit

def escL (l : List UInt8) : List UInt8 := l.flatMap fun c => if ((c.toNat : Int) == 34 || (c.toNat : Int) == 92) then [92, c] else [c]

theorem escL_snoc (l : List UInt8) (c : UInt8) : escL (l ++ [c]) = escL l ++ (if ((c.toNat : Int) == 34 || (c.toNat : Int) == 92) then [92, c] else [c]) := by
  simp [escL]

def quoteL (l : List UInt8) : List UInt8 × Bool := if l.all isPrint then (34 :: escL l ++ [34], true) else ([], false)

theorem take_snoc (s : ByteArray) (k : Nat) (h : k < s.size) : s.data.toList.take (k + 1) = s.data.toList.take k ++ [s[k]] := by
  rw [List.take_succ_eq_append_getElem (by rw [← Lib.size_eq]; exact h)]; rfl

theorem all_false_at (s : ByteArray) (k : Nat) (h : k < s.size) (p : UInt8 → Bool) (hp : p s[k] = false) : s.data.toList.all p = false := by
  have : s.data.toList[k]'(by rw [← Lib.size_eq]; exact h) ∈ s.data.toList := List.getElem_mem _
  rw [Bool.eq_false_iff]
  intro ha
  have := List.all_eq_true.1 ha _ this
  rw [data_at s k h, hp] at this
  simp at this

set_option maxHeartbeats 2000000 in
theorem quote_any (s : ByteArray) (w : World) (hs : s.size ≤ 1000000) :
    Calls Try.prog 25 #[.string s] w fun e w' => e = .returned (.tuple #[.string ⟨(quoteL s.data.toList).1.toArray⟩, .bool (quoteL s.data.toList).2]) ∧ Below w.heap.size w w' := by
  go_enter Try.func25, Try.ntmps25
  go_wp2
  go_loopw [4, 9] (fun v i wr => ∃ k : Nat, ∃ acc : List UInt8, k ≤ s.size ∧ acc.length ≤ 2 * k + 1 ∧ i = .int .i64 k ∧ wr.ownsRow w.heap.size 5 1 v acc.length (acc.map byteV) ∧ Below w.heap.size w wr ∧
      Hid ((s.data.toList.take k).all isPrint = true) ∧ Hid (acc = 34 :: escL (s.data.toList.take k))) (fun _ i _ => s.size - (intOf i).toNat)
  case atStart => exact ⟨0, [34], by omega, by simp, rfl, World.ownsRow_lit _ #[.int .u8 34] 1 (Nat.le_refl _) (by unfold maxLen; omega) rfl, (Below.refl _ _).alloc (Nat.le_refl _) _, Lib.hid (by simp), Lib.hid (by simp [escL])⟩
  case round =>
    obtain ⟨k, acc, hk, hal, rfl, hown, hbel, hP, hA⟩ := hrel
    by_cases hlt : k < s.size
    · have hts := Lib.hid (take_snoc s k hlt)
      go_wp2_with (first
        | (go_at_call 39; refine (printable_any _ _).mono ?_; rintro e w' ⟨rfl, rfl⟩)
        | (at_builtin; refine append_one er32 rfl rfl hown rfl rfl rfl (by simp [Value.oneCell']) (by omega) (by omega) hbel.size ?_; intro v' w1 hown1 hg1 hb1 hne1)
        | (at_builtin; refine append_one er32 rfl rfl hown1 rfl rfl rfl (by simp [Value.oneCell']) (by omega) (by omega) (hbel.trans hb1).size ?_; intro v2 w2 hown2 hg2 hb2 hne2))
      · have h1 : (!isPrint s[k]) = true := by assumption
        go_ret2
        refine ⟨?_, hbel⟩
        rw [show quoteL s.data.toList = ([], false) by unfold quoteL; rw [all_false_at s k hlt isPrint (by simpa using h1)]; rfl]
        rfl
      · have h1 : (!isPrint s[k]) = false := by assumption
        have h2 : (s[k].toNat : Int) = 34 := by assumption
        go_roundw
        case rel =>
          refine ⟨k + 1, acc ++ [92] ++ [s[k]], by omega, by simp; omega, by go_num, by simpa [byteV, h2] using hown2, (hbel.trans hb1).trans hb2, Lib.hid ?_, Lib.hid ?_⟩
          · rw [hts.out, List.all_append, hP.out]; simpa using h1
          · rw [hts.out, escL_snoc, if_pos (by simp [h2]), hA.out]; simp
        case measure => simp [intOf]; omega
      · have h1 : (!isPrint s[k]) = false := by assumption
        rename_i h2
        go_roundw
        case rel =>
          refine ⟨k + 1, acc ++ [92] ++ [s[k]], by omega, by simp; omega, by go_num, by simpa [byteV] using hown2, (hbel.trans hb1).trans hb2, Lib.hid ?_, Lib.hid ?_⟩
          · rw [hts.out, List.all_append, hP.out]; simpa using h1
          · rw [hts.out, escL_snoc, if_pos (by simpa using h2), hA.out]; simp
        case measure => simp [intOf]; omega
      · have h1 : (!isPrint s[k]) = false := by assumption
        rename_i h2
        go_roundw
        case rel =>
          refine ⟨k + 1, acc ++ [s[k]], by omega, by simp; omega, by go_num, by simpa [byteV] using hown1, hbel.trans hb1, Lib.hid ?_, Lib.hid ?_⟩
          · rw [hts.out, List.all_append, hP.out]; simpa using h1
          · rw [hts.out, escL_snoc, if_neg (by simpa using h2), hA.out]; simp
        case measure => simp [intOf]; omega
    · have hfin : Hid (quoteL s.data.toList = (acc ++ [34], true)) := Lib.hid (by
        have h1 := hP.out
        have h2 := hA.out
        rw [List.take_of_length_le (by rw [← Lib.size_eq]; omega)] at h1 h2
        unfold quoteL; rw [h1, if_pos rfl, h2])
      go_wp2_with (first
        | (at_builtin; refine append_one er32 rfl rfl hown rfl rfl rfl (by simp [Value.oneCell']) (by omega) (by omega) hbel.size ?_; intro v' w1 hown1 hg1 hb1 hne1; have hconv := string_of_owned 71 9 Try.underlying71 Try.underlying5 Try.underlying9 (P := Try.prog) (w := w1) (l := acc ++ [34]) (by simpa [byteV] using hown1)))
      go_ret2
      exact ⟨by rw [hfin.out]; rfl, hbel.trans hb1⟩

end Go.Proofs.Ythdcgplocdehjaa

namespace Go.Proofs.Ythdcgplocdehjaa
open Go.RowKit Go.Proofs.Kit

/-- strings.Cut at "/". -/
def cutL (l : List UInt8) : Option (List UInt8 × List UInt8) :=
  if 0 ≤ Lib.indexByte l 47 then some (l.take (Lib.indexByte l 47).toNat, l.drop ((Lib.indexByte l 47).toNat + 1)) else none

def CRet (l : List UInt8) (e : Ending) : Prop := match cutL l with
  | some (a, b) => e = .returned (.tuple #[.string ⟨a.toArray⟩, .string ⟨b.toArray⟩, .bool true])
  | none => e = .returned (.tuple #[.string ⟨l.toArray⟩, .string ⟨#[]⟩, .bool false])

theorem ret_ssb {a b c d : ByteArray} {x : Bool} (h : a = b) (k : c = d) : Ending.returned (.tuple #[.string a, .string c, .bool x]) = .returned (.tuple #[.string b, .string d, .bool x]) := by rw [h, k]

theorem indexByte_lt (l : List UInt8) (c : UInt8) : Lib.indexByte l c < l.length ∨ Lib.indexByte l c = -1 := by
  induction l with
  | nil => right; rfl
  | cons b l ih =>
    unfold Lib.indexByte
    split
    · left; simp
    · split
      · right; rfl
      · rename_i h; left; simp at h; rcases ih with h1 | h1
        · simp; omega
        · exact absurd h1 h

set_option maxHeartbeats 2000000 in
theorem cut42_any (s : ByteArray) (w : World) (hs : s.size ≤ maxLen) :
    Calls Try.prog 77 #[.string s, .string ⟨#[47]⟩] w fun e w' => CRet s.data.toList e ∧ Below w.heap.size w w' := by
  obtain ⟨i, hi⟩ : ∃ i, i = Lib.indexByte s.data.toList 47 := ⟨_, rfl⟩
  have hlt := indexByte_lt s.data.toList 47
  rw [← hi, ← Lib.size_eq] at hlt
  unfold maxLen at hs
  have HI := Lib.hid hi
  have key : cutL s.data.toList = if 0 ≤ i then some (s.data.toList.take i.toNat, s.data.toList.drop (i.toNat + 1)) else none := by
    unfold cutL; rw [← hi]
  have KEY := Lib.hid key
  clear hi key
  by_cases c1 : 0 ≤ i
  · obtain ⟨n, rfl⟩ := Int.eq_ofNat_of_zero_le c1
    have hn : n < s.size := by rcases hlt with h | h <;> omega
    clear hlt c1
    have KEY2 : Hid (cutL s.data.toList = some (s.data.toList.take n, s.data.toList.drop (n + 1))) := by have := KEY.out; rw [if_pos (by omega)] at this; exact this
    go_enter Try.func77, Try.ntmps77
    go_wp2_with (go_at_call 64; refine (Try.stringslite_Index_one _ _ _).mono ?_; rintro e w' ⟨rfl, rfl⟩; rw [← HI.out])
    go_quiet (fail)
    go_wp2
    go_ret3
    refine ⟨?_, below_drewN (Below.refl _ _) _⟩
    unfold CRet
    rw [KEY2.out]
    exact ret_ssb (by rw [Lib.extract_eq, List.drop_zero, Nat.sub_zero]) (by rw [← Lib.mk_data (s.extract (n+1) s.size), ext_from])
  · have KEY2 : Hid (cutL s.data.toList = none) := by have := KEY.out; rw [if_neg c1] at this; exact this
    clear hlt
    go_enter Try.func77, Try.ntmps77
    go_wp2_with (go_at_call 64; refine (Try.stringslite_Index_one _ _ _).mono ?_; rintro e w' ⟨rfl, rfl⟩; rw [← HI.out])
    go_ret3
    refine ⟨?_, Below.refl _ _⟩
    unfold CRet
    rw [KEY2.out]
    exact ret_ssb (by rw [Lib.mk_data]) rfl

set_option maxHeartbeats 1000000 in
theorem cut_any (s : ByteArray) (w : World) (hs : s.size ≤ maxLen) :
    Calls Try.prog 69 #[.string s, .string ⟨#[47]⟩] w fun e w' => CRet s.data.toList e ∧ Below w.heap.size w w' := by
  go_enter Try.func69, Try.ntmps69
  cases hc : cutL s.data.toList with
  | none =>
    have HC := Lib.hid hc
    clear hc
    go_wp2_with (go_at_call 77; refine (cut42_any _ _ hs).mono ?_; unfold CRet; rw [HC.out]; rintro e w' ⟨rfl, hb⟩)
    go_ret3
    exact ⟨by unfold CRet; rw [HC.out]; rfl, hb⟩
  | some x =>
    obtain ⟨a, b⟩ := x
    have HC := Lib.hid hc
    clear hc
    go_wp2_with (go_at_call 77; refine (cut42_any _ _ hs).mono ?_; unfold CRet; rw [HC.out]; rintro e w' ⟨rfl, hb⟩)
    go_ret3
    exact ⟨by unfold CRet; rw [HC.out]; rfl, hb⟩

def bareL (l : List UInt8) : Bool :=
  if l.length = 0 then false
  else if wordL l = l.length ∨ numL l = l.length then true
  else match cutL l with
    | none => false
    | some (a, b) => decide (0 < a.length) && decide (0 < b.length) && decide (numL a = a.length) && decide (numL b = b.length)

theorem cutL_len {l a b : List UInt8} (h : cutL l = some (a, b)) : a.length ≤ l.length ∧ b.length ≤ l.length := by
  unfold cutL at h
  split at h
  · simp only [Option.some.injEq, Prod.mk.injEq] at h
    rw [← h.1, ← h.2]
    exact ⟨by rw [List.length_take]; omega, by rw [List.length_drop]; omega⟩
  · simp at h

set_option maxHeartbeats 2000000 in
theorem bare_any (s : ByteArray) (w : World) (hs : s.size ≤ maxLen) :
    Calls Try.prog 59 #[.string s] w fun e w' => e = .returned (.bool (bareL s.data.toList)) ∧ Below w.heap.size w w' := by
  by_cases h0 : 0 < s.size
  · have hE : s.toList.isEmpty = false := bempty_f s h0
    obtain ⟨x, hx⟩ : ∃ x, x = wordL s.data.toList := ⟨_, rfl⟩
    obtain ⟨y, hy⟩ : ∃ y, y = numL s.data.toList := ⟨_, rfl⟩
    have key : bareL s.data.toList = if x = s.size ∨ y = s.size then true else match cutL s.data.toList with
        | none => false
        | some (a, b) => decide (0 < a.length) && decide (0 < b.length) && decide (numL a = a.length) && decide (numL b = b.length) := by
      unfold bareL; rw [← Lib.size_eq, if_neg (by omega), ← hx, ← hy]
    have KEY := Lib.hid key
    have HX := Lib.hid hx
    have HY := Lib.hid hy
    clear key hx hy
    by_cases c1 : x = s.size
    · have b1 : ((x : Int) == (s.size : Int)) = true := by simp [c1]
      have k1 : Hid (bareL s.data.toList = true) := by have := KEY.out; rw [if_pos (.inl c1)] at this; exact this
      clear c1
      go_enter Try.func59, Try.ntmps59
      go_wp2_with (go_at_call 53; refine (word_any _ _ hs).mono ?_; rintro e w' ⟨rfl, rfl⟩; rw [← HX.out])
      go_ret
      exact ⟨ret_bool (by rw [k1.out]), Below.refl _ _⟩
    have b1 : ((x : Int) == (s.size : Int)) = false := by rw [beq_eq_false_iff_ne]; omega
    by_cases c2 : y = s.size
    · have b2 : ((y : Int) == (s.size : Int)) = true := by simp [c2]
      have k1 : Hid (bareL s.data.toList = true) := by have := KEY.out; rw [if_pos (.inr c2)] at this; exact this
      clear c2 c1
      go_enter Try.func59, Try.ntmps59
      go_wp2_with (first
        | (go_at_call 53; refine (word_any _ _ hs).mono ?_; rintro e w' ⟨rfl, rfl⟩; rw [← HX.out])
        | (go_at_call 54; refine (number_any _ _ hs).mono ?_; rintro e w' ⟨rfl, rfl⟩; rw [← HY.out]))
      go_ret
      exact ⟨ret_bool (by rw [k1.out]), Below.refl _ _⟩
    have b2 : ((y : Int) == (s.size : Int)) = false := by rw [beq_eq_false_iff_ne]; omega
    cases hc : cutL s.data.toList with
    | none =>
      have k1 : Hid (bareL s.data.toList = false) := by have := KEY.out; rw [if_neg (by omega), hc] at this; exact this
      have HC := Lib.hid hc
      clear hc c1 c2
      go_enter Try.func59, Try.ntmps59
      go_wp2_with (first
        | (go_at_call 53; refine (word_any _ _ hs).mono ?_; rintro e w' ⟨rfl, rfl⟩; rw [← HX.out])
        | (go_at_call 54; refine (number_any _ _ hs).mono ?_; rintro e w' ⟨rfl, rfl⟩; rw [← HY.out])
        | (go_at_call 69; refine (cut_any _ _ hs).mono ?_; unfold CRet; rw [HC.out]; rintro e w' ⟨rfl, hb⟩))
      go_ret
      exact ⟨ret_bool (by rw [k1.out]), hb⟩
    | some z =>
      obtain ⟨a, b⟩ := z
      have k1 : Hid (bareL s.data.toList = (decide (0 < a.length) && decide (0 < b.length) && decide (numL a = a.length) && decide (numL b = b.length))) := by
        have := KEY.out; rw [if_neg (by omega), hc] at this; exact this
      have hl := cutL_len hc
      rw [← Lib.size_eq] at hl
      have HC := Lib.hid hc
      clear hc c1 c2
      obtain ⟨A, hA⟩ : ∃ A : ByteArray, A = ⟨a.toArray⟩ := ⟨_, rfl⟩
      obtain ⟨B, hB⟩ : ∃ B : ByteArray, B = ⟨b.toArray⟩ := ⟨_, rfl⟩
      have hAd : A.data.toList = a := by rw [hA]
      have hBd : B.data.toList = b := by rw [hB]
      have hAs : A.size = a.length := by rw [Lib.size_eq, hAd]
      have hBs : B.size = b.length := by rw [Lib.size_eq, hBd]
      have sA : Hid (A.size ≤ maxLen) := Lib.hid (by omega)
      have sB : Hid (B.size ≤ maxLen) := Lib.hid (by omega)
      have HA := Lib.hid hA
      have HB := Lib.hid hB
      have HC2 : Hid (CRet s.data.toList = fun e => e = .returned (.tuple #[.string A, .string B, .bool true])) := Lib.hid (by funext e; unfold CRet; rw [HC.out]; simp only []; rw [hA, hB])
      have HAd := Lib.hid hAd
      have HBd := Lib.hid hBd
      obtain ⟨p, hp⟩ : ∃ p, p = numL a := ⟨_, rfl⟩
      obtain ⟨q, hq⟩ : ∃ q, q = numL b := ⟨_, rfl⟩
      rw [← hp, ← hq, ← hAs, ← hBs] at k1
      have HP := Lib.hid hp
      have HQ := Lib.hid hq
      clear hA hB hAd hBd hl hp hq hAs hBs
      have e1 : decide (0 < A.size) = !A.toList.isEmpty := by
        by_cases h : 0 < A.size
        · rw [bempty_f A h]; simp [h]
        · rw [bempty_t A h]; simp [h]
      have e2 : decide (0 < B.size) = !B.toList.isEmpty := by
        by_cases h : 0 < B.size
        · rw [bempty_f B h]; simp [h]
        · rw [bempty_t B h]; simp [h]
      have e3 : decide (p = A.size) = ((p : Int) == (A.size : Int)) := by rw [Bool.eq_iff_iff]; simp; omega
      have e4 : decide (q = B.size) = ((q : Int) == (B.size : Int)) := by rw [Bool.eq_iff_iff]; simp; omega
      rw [e1, e2, e3, e4] at k1
      clear e1 e2 e3 e4
      cases d1 : A.toList.isEmpty
      all_goals cases d2 : B.toList.isEmpty
      all_goals cases d3 : ((p : Int) == (A.size : Int))
      all_goals
        rw [d1, d2, d3] at k1
        go_enter Try.func59, Try.ntmps59
        go_wp2_with (first
          | (go_at_call 53; refine (word_any _ _ hs).mono ?_; rintro e w' ⟨rfl, rfl⟩; rw [← HX.out])
          | (go_at_call 54; refine (number_any _ _ (by first | (with_reducible exact hs) | (with_reducible exact sA.out) | (with_reducible exact sB.out))).mono ?_; rintro e w' ⟨rfl, rfl⟩; first | rw [← HY.out] | rw [HAd.out, ← HP.out] | rw [HBd.out, ← HQ.out])
          | (go_at_call 69; refine (cut_any _ _ hs).mono ?_; rw [HC2.out]; rintro e w' ⟨rfl, hb⟩))
        go_ret
        refine ⟨ret_bool ?_, hb⟩
        rw [k1.out]
        rfl
  · have hE : s.toList.isEmpty = true := bempty_t s h0
    have HW : Hid (bareL s.data.toList = false) := by rw [data_nil s h0]; rfl
    clear h0
    go_enter Try.func59, Try.ntmps59
    go_wp2
    go_ret
    exact ⟨ret_bool (by rw [HW.out]), Below.refl _ _⟩

end Go.Proofs.Ythdcgplocdehjaa
