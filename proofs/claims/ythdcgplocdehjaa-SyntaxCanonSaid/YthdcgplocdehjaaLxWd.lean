import Derived.Test.YthdcgplocdehjaaLxWc
import Derived.Test.YthdcgplocdehjaaGK
namespace Go.Proofs.Ythdcgplocdehjaa
open Go.RowKit Go.Proofs.Kit

theorem er32 : ElemRow Try.prog 71 5 (.int .u8 0) 1 1 := ⟨Try.underlying71, by kernel_rfl, rfl, by decide⟩

/-- A string token behind its opening quote: what it stands for, and how many bytes it takes with the closing quote. -/
def strL : List UInt8 → Option (List UInt8 × Nat)
  | [] => none
  | c :: r =>
    if (c.toNat : Int) == 34 then some ([], 1)
    else if (c.toNat : Int) == 92 then
      match r with
      | [] => none
      | d :: r' => if (d.toNat : Int) == 34 || (d.toNat : Int) == 92 then (strL r').map fun (t, n) => (d :: t, n + 2) else none
    else if isPrint c then (strL r).map fun (t, n) => (c :: t, n + 1) else none

def addS (acc : List UInt8) (k : Nat) (x : Option (List UInt8 × Nat)) : Option (List UInt8 × Nat) := x.map fun (t, n) => (acc ++ t, n + k)

theorem addS_close (acc : List UInt8) (k : Nat) (c : UInt8) (r : List UInt8) (h : ((c.toNat : Int) == 34) = true) : addS acc k (strL (c :: r)) = some (acc, k + 1) := by
  unfold strL; simp [addS, h]; omega
theorem addS_esc (acc : List UInt8) (k : Nat) (c d : UInt8) (r : List UInt8) (h0 : ((c.toNat : Int) == 34) = false) (h : ((c.toNat : Int) == 92) = true) (hd : ((d.toNat : Int) == 34 || (d.toNat : Int) == 92) = true) :
    addS acc k (strL (c :: d :: r)) = addS (acc ++ [d]) (k + 2) (strL r) := by
  conv => lhs; unfold strL
  simp only [h0, h, hd, if_true, Bool.false_eq_true, if_false]
  unfold addS
  cases strL r with
  | none => rfl
  | some x => simp; omega
theorem addS_bad (acc : List UInt8) (k : Nat) (c d : UInt8) (r : List UInt8) (h0 : ((c.toNat : Int) == 34) = false) (h : ((c.toNat : Int) == 92) = true) (hd : ((d.toNat : Int) == 34 || (d.toNat : Int) == 92) = false) :
    addS acc k (strL (c :: d :: r)) = none := by
  unfold strL
  simp only [h0, h, hd, if_true, Bool.false_eq_true, if_false]; rfl
theorem addS_end (acc : List UInt8) (k : Nat) (c : UInt8) (h0 : ((c.toNat : Int) == 34) = false) (h : ((c.toNat : Int) == 92) = true) :
    addS acc k (strL [c]) = none := by
  unfold strL
  simp only [h0, h, if_true, Bool.false_eq_true, if_false]; rfl
theorem addS_plain (acc : List UInt8) (k : Nat) (c : UInt8) (r : List UInt8) (h0 : ((c.toNat : Int) == 34) = false) (h : ((c.toNat : Int) == 92) = false) (hp : isPrint c = true) :
    addS acc k (strL (c :: r)) = addS (acc ++ [c]) (k + 1) (strL r) := by
  conv => lhs; unfold strL
  simp only [h0, h, hp, if_true, Bool.false_eq_true, if_false]
  unfold addS
  cases strL r with
  | none => rfl
  | some x => simp; omega
theorem addS_ctl (acc : List UInt8) (k : Nat) (c : UInt8) (r : List UInt8) (h0 : ((c.toNat : Int) == 34) = false) (h : ((c.toNat : Int) == 92) = false) (hp : isPrint c = false) :
    addS acc k (strL (c :: r)) = none := by
  unfold strL
  simp only [h0, h, hp, Bool.false_eq_true, if_false]; rfl

theorem ret_is {k : IntKind} {a b : Int} {s : ByteArray} (h : a = b) : Ending.returned (.tuple #[.int k a, .string s]) = .returned (.tuple #[.int k b, .string s]) := by rw [h]

/-- What 'quoted' hands back. -/
def QRet (x : Option (List UInt8 × Nat)) (e : Ending) : Prop := match x with
  | some (t, n) => e = .returned (.tuple #[.int .i64 (n + 1 : Nat), .string ⟨t.toArray⟩])
  | none => e = .returned (.tuple #[.int .i64 0, .string ⟨#[]⟩])

set_option maxHeartbeats 2000000 in
theorem quoted_any (s : ByteArray) (w : World) (hs : s.size ≤ 140737488351232) (h0 : 0 < s.size) :
    Calls Try.prog 55 #[.string s] w fun e w' => QRet (strL (s.data.toList.drop 1)) e ∧ Below w.heap.size w w' := by
  go_enter Try.func55, Try.ntmps55
  go_wp2
  go_loopw [4, 5] (fun v i wr => ∃ k : Nat, ∃ acc : List UInt8, 1 ≤ k ∧ k ≤ s.size ∧ acc.length ≤ k ∧ i = .int .i64 k ∧ wr.ownsRow w.heap.size 5 1 v acc.length (acc.map byteV) ∧ Below w.heap.size w wr ∧
      Hid (strL (s.data.toList.drop 1) = addS acc (k - 1) (strL (s.data.toList.drop k)))) (fun _ i _ => s.size - (intOf i).toNat)
  case atStart => exact ⟨1, [], by omega, by omega, by simp, rfl, World.ownsRow_nil _ _ _ _, Below.refl _ _, Lib.hid (by unfold addS; cases strL (List.drop 1 s.data.toList) <;> simp)⟩
  case round =>
    obtain ⟨k, acc, hk1, hk, hal, rfl, hown, hbel, hP⟩ := hrel
    by_cases hlt : k < s.size
    · have hd := Lib.hid (drop_at s k hlt)
      have hconv : ∀ n, (convert 71 9 u4).run Try.prog (wr.drewN n) = .ok (.string ⟨acc.toArray⟩) (wr.drewN n) := fun n =>
        string_of_owned 71 9 Try.underlying71 Try.underlying5 Try.underlying9 (w := wr.drewN n) hown
      have hds : ∀ h : k + 1 < s.size, Hid (s.data.toList.drop k = s[k] :: s[k+1] :: s.data.toList.drop (k+1+1)) := fun h => Lib.hid (by rw [hd.out, drop_at s (k+1) h])
      have hde : ¬ k + 1 < s.size → Hid (s.data.toList.drop k = [s[k]]) := fun h => Lib.hid (by rw [hd.out, drop_end s (k+1) h])
      have HDS := Lib.hid hds
      have HDE := Lib.hid hde
      clear hds hde
      go_wp2_with (first
        | (go_at_call 39; refine (printable_any _ _).mono ?_; rintro e w' ⟨rfl, rfl⟩)
        | (at_builtin; refine append_one er32 rfl rfl hown rfl rfl rfl (by simp [Value.oneCell']) (by omega) (by omega) hbel.size ?_; intro v' w1 hown1 hg1 hb1 hne1))
      · have h1 : ((s[k].toNat : Int) == 34) = true := by assumption
        go_quiet (fail)
        go_wp2
        go_ret2
        refine ⟨?_, ?_⟩
        · rw [hP.out, hd.out, addS_close _ _ _ _ h1]
          exact ret_is (by omega)
        · exact below_drewN hbel _
      · have h1 : ((s[k].toNat : Int) == 34) = false := by assumption
        have h2 : ((s[k].toNat : Int) == 92) = true := by assumption
        go_ret2
        refine ⟨?_, hbel⟩
        rw [hP.out, (HDE.out (by omega)).out, addS_end _ _ _ h1 h2]; rfl
      · have h1 : ((s[k].toNat : Int) == 34) = false := by assumption
        have h2 : ((s[k].toNat : Int) == 92) = true := by assumption
        have h3 : (s[k+1].toNat : Int) = 34 := by assumption
        go_roundw
        case rel =>
          refine ⟨k + 2, acc ++ [s[k+1]], by omega, by omega, by simp; omega, by go_num, by simpa [byteV, h3] using hown1, hbel.trans hb1, Lib.hid ?_⟩
          rw [hP.out, (HDS.out (by omega)).out, addS_esc _ _ _ _ _ h1 h2 (by simp [h3])]
          congr 1; omega
        case measure => simp [intOf]; omega
      · have h1 : ((s[k].toNat : Int) == 34) = false := by assumption
        have h2 : ((s[k].toNat : Int) == 92) = true := by assumption
        have h3 : ¬ (s[k+1].toNat : Int) = 34 := by assumption
        rename_i h4
        have h5 : ¬ (s[k+1].toNat : Int) = 92 := by
          rcases h4 with h4 | h4
          · simp only [beq_iff_eq] at h4; omega
          · simpa using h4.2
        go_ret2
        refine ⟨?_, hbel⟩
        rw [hP.out, (HDS.out (by omega)).out, addS_bad _ _ _ _ _ h1 h2 (by simp [h3, h5])]; rfl
      · have h1 : ((s[k].toNat : Int) == 34) = false := by assumption
        have h2 : ((s[k].toNat : Int) == 92) = true := by assumption
        have h3 : ¬ (s[k+1].toNat : Int) = 34 := by assumption
        have h4 : (↑k + 1 == (s.size : Int)) = false ∧ (((s[k + 1].toNat : Int) != 34) = false ∨ ((s[k + 1].toNat : Int) != 92) = false) := by assumption
        have h5 : (s[k+1].toNat : Int) = 92 := by
          rcases h4.2 with h4 | h4
          · exact absurd (by simpa using h4) h3
          · simpa using h4
        go_roundw
        case rel =>
          refine ⟨k + 2, acc ++ [s[k+1]], by omega, by omega, by simp; omega, by go_num, by simpa [byteV, h5] using hown1, hbel.trans hb1, Lib.hid ?_⟩
          rw [hP.out, (HDS.out (by omega)).out, addS_esc _ _ _ _ _ h1 h2 (by simp [h5])]
          congr 1; omega
        case measure => simp [intOf]; omega
      · have h1 : ((s[k].toNat : Int) == 34) = false := by assumption
        have h2 : ((s[k].toNat : Int) == 92) = false := by assumption
        have h3 : (!isPrint s[k]) = true := by assumption
        go_ret2
        refine ⟨?_, hbel⟩
        rw [hP.out, hd.out, addS_ctl _ _ _ _ h1 h2 (by simpa using h3)]; rfl
      · have h1 : ((s[k].toNat : Int) == 34) = false := by assumption
        have h2 : ((s[k].toNat : Int) == 92) = false := by assumption
        have h3 : (!isPrint s[k]) = false := by assumption
        go_roundw
        case rel =>
          refine ⟨k + 1, acc ++ [s[k]], by omega, by omega, by simp; omega, by go_num, by simpa [byteV] using hown1, hbel.trans hb1, Lib.hid ?_⟩
          rw [hP.out, hd.out, addS_plain _ _ _ _ h1 h2 (by simpa using h3)]
          congr 1; omega
        case measure => simp [intOf]; omega
    · go_wp2
      go_ret2
      refine ⟨?_, hbel⟩
      rw [hP.out, drop_end s k hlt]; rfl

end Go.Proofs.Ythdcgplocdehjaa
