/- The reference's Strings and Eq, at equal arguments: what Eq's walk needs. -/
import Derived.Test.YthdcgplocdehjaaZJ
import Derived.Deep.DeepCutAuto
import Derived.Deep.CutBlock
namespace Go.Proofs.Ythdcgplocdehjaa
open Go.RowKit Go.Proofs.Kit

set_option maxHeartbeats 2000000 in
theorem strings_c {l : List (List UInt8)} {u v : Value} (w : World) (hn : l.length ≤ 1000) (ha : RowAt w u (l.map strV)) (hb : RowAt w v (l.map strV)) :
    Calls Try.prog 24 #[u, v] w fun e w' => e = .returned (.bool true) ∧ Below w.heap.size w w' := by
  obtain ⟨p, cp, rfl, h1, h2⟩ := RowAt.shapeS ha
  obtain ⟨q, cq, rfl, h3, h4⟩ := RowAt.shapeS hb
  obtain ⟨n, hnn⟩ : ∃ n, l.length = n := ⟨_, rfl⟩
  have HN := Lib.hid hnn
  have HA := Lib.hid ha
  have HB := Lib.hid hb
  rw [hnn] at h1 h3 hn HA HB ⊢
  clear ha hb hnn
  go_enter Try.func24, Try.ntmps24
  go_wp2_with fail
  go_loopw [5] (fun i wr => ∃ k : Nat, i = .int .i64 k ∧ k ≤ n ∧ Below w.heap.size w wr) (fun i _ => n - (intOf i).toNat)
  case atStart => exact ⟨0, rfl, Nat.zero_le _, Below.refl _ _⟩
  case round =>
    obtain ⟨k, rfl, hk, hbr⟩ := hrel
    by_cases hlt : k < n
    · have hkl : k < l.length := by rw [HN.out]; exact hlt
      obtain ⟨b, off, cp', eb, _, _, _, hcell⟩ := RowAt.strAt (HA.out.keep hbr) hkl
      obtain ⟨b2, off2, cq', eb2, _, _, _, hcell2⟩ := RowAt.strAt (HB.out.keep hbr) hkl
      injection eb with e1 e2 e3
      injection eb2 with d1 d2 d3
      subst e1
      subst d1
      have c1 := hcell k hkl
      have c2 := hcell2 k hkl
      obtain ⟨S, hS⟩ : ∃ S : ByteArray, (⟨l[k].toArray⟩ : ByteArray) = S := ⟨_, rfl⟩
      rw [hS] at c1 c2
      have i1 : (k : Int) < (n : Int) := by omega
      have i2 : (0 : Int) ≤ (k : Int) := by omega
      clear hS hcell hcell2 hkl e2 e3 d2 d3
      obtain ⟨wo, rfl⟩ : ∃ x, x = wr := ⟨_, rfl⟩
      go_wp2_with fail
      go_quiet (fail)
      go_wp2_with fail
      go_roundw
      case rel => exact ⟨k + 1, by go_num, by omega, below_drewN hbr _⟩
      case measure => simp [intOf]; omega
    · go_wp2_with fail
      go_ret
      exact ⟨rfl, hbr⟩

/-- Two blocks, one behind the other. -/
theorem bk_pair (w : World) (A B : Array Value) (T U : TypeId) : Bk w.heap.size A ((w.alloc (.cells A T)).alloc (.cells B U)).drew ∧ Bk (w.heap.size + 1) B ((w.alloc (.cells A T)).alloc (.cells B U)).drew ∧ Below w.heap.size w ((w.alloc (.cells A T)).alloc (.cells B U)).drew :=
  ⟨((Bk.new w A T).keep ((Below.refl _ _).alloc (Nat.le_refl _) _)).keep (Below.refl _ _).drew, (Bk.newAt _ _ _ (by simp)).keep (Below.refl _ _).drew, (((Below.refl w.heap.size w).alloc (Nat.le_refl _) _).alloc (by simp) _).drew⟩
section
variable {α β : Type} {la : α → Int} {lb : β → Int}
def SameF (la : α → Int) (lb : β → Int) (lines : Bool) (f : FldA α) (g : FldA β) : Prop := f.1 = g.1 ∧ f.2.1 = g.2.1 ∧ (lines = true → la f.2.2 = lb g.2.2)
def SameB (la : α → Int) (lb : β → Int) (lines : Bool) (x : BlkA α) (y : BlkA β) : Prop := x.1 = y.1 ∧ x.2.1 = y.2.1 ∧ (lines = true → la x.2.2.2 = lb y.2.2.2) ∧ x.2.2.1.length = y.2.2.1.length ∧ ∀ j (h : j < x.2.2.1.length) (h' : j < y.2.2.1.length), SameF la lb lines x.2.2.1[j] y.2.2.1[j]
def SameS (la : α → Int) (lb : β → Int) (lines : Bool) (x : SrcA α) (y : SrcA β) : Prop := x.1 = y.1 ∧ x.2.length = y.2.length ∧ ∀ j (h : j < x.2.length) (h' : j < y.2.length), SameB la lb lines x.2[j] y.2[j]
theorem SameF.refl (lines : Bool) (f : FldA α) : SameF la la lines f f := ⟨rfl, rfl, fun _ => rfl⟩
theorem SameB.refl (lines : Bool) (x : BlkA α) : SameB la la lines x x := ⟨rfl, rfl, fun _ => rfl, rfl, fun _ _ _ => SameF.refl _ _⟩
theorem SameS.refl (lines : Bool) (x : SrcA α) : SameS la la lines x x := ⟨rfl, rfl, fun _ _ _ => SameB.refl _ _⟩
theorem SameS.at_ {lines : Bool} {x : SrcA α} {y : SrcA β} (h : SameS la lb lines x y) {k : Nat} (h1 : k < x.2.length) (h2 : k < y.2.length) : ∃ X Y, x.2[k] = X ∧ y.2[k] = Y ∧ SameB la lb lines X Y := ⟨_, _, rfl, rfl, h.2.2 k h1 h2⟩
theorem SameB.at_ {lines : Bool} {x : BlkA α} {y : BlkA β} (h : SameB la lb lines x y) {k : Nat} (h1 : k < x.2.2.1.length) (h2 : k < y.2.2.1.length) : ∃ X Y, x.2.2.1[k] = X ∧ y.2.2.1[k] = Y ∧ SameF la lb lines X Y := ⟨_, _, rfl, rfl, h.2.2.2.2 k h1 h2⟩
/-- The cells of a field within a slice. -/
theorem fld_at {w : World} {p : Option Addr} {n cap k : Nat} {l : List (FldA α)} (h : SliceOf (fldRA la) 3 w (.slice p n cap) l) (hk : k < l.length) :
    ∃ g off S u, p = some ⟨g, off, none⟩ ∧ strV l[k].1 = .string S ∧ RowAt w u (l[k].2.1.map strV) ∧ w.cell? ⟨g, off + k * 3, none⟩ = some (.string S) ∧ w.cell? ⟨g, off + k * 3 + 1, none⟩ = some u ∧ w.cell? ⟨g, off + k * 3 + 2, none⟩ = some (.int .i64 (la l[k].2.2)) := by
  obtain ⟨g, off, cap', c, eb, hx1, hx2, hx3, hR, hcell⟩ := SliceOf.at_ (by omega) h hk
  injection eb with e1 _ _
  obtain ⟨u, rfl, hrow⟩ := hR
  exact ⟨g, off, _, u, e1, rfl, hrow, hcell 0 _ rfl, hcell 1 _ rfl, hcell 2 _ rfl⟩
theorem blk_at {w : World} {p : Option Addr} {n cap k : Nat} {l : List (BlkA α)} (h : SliceOf (blkRA la) 4 w (.slice p n cap) l) (hk : k < l.length) :
    ∃ g off S N q cq, p = some ⟨g, off, none⟩ ∧ strV l[k].1 = .string S ∧ strV l[k].2.1 = .string N ∧ SliceOf (fldRA la) 3 w (.slice q l[k].2.2.1.length cq) l[k].2.2.1 ∧ l[k].2.2.1.length ≤ cq ∧ cq ≤ 9223372036854775807 ∧ w.cell? ⟨g, off + k * 4, none⟩ = some (.string S) ∧ w.cell? ⟨g, off + k * 4 + 1, none⟩ = some (.string N) ∧ w.cell? ⟨g, off + k * 4 + 2, none⟩ = some (.slice q l[k].2.2.1.length cq) ∧ w.cell? ⟨g, off + k * 4 + 3, none⟩ = some (.int .i64 (la l[k].2.2.2)) := by
  obtain ⟨g, off, cap', c, eb, hx1, hx2, hx3, hR, hcell⟩ := SliceOf.at_ (by omega) h hk
  injection eb with e1 _ _
  obtain ⟨u, rfl, hrow⟩ := hR
  obtain ⟨q, cq, rfl, hq1, hq2⟩ := hrow.shape
  exact ⟨g, off, _, _, q, cq, e1, rfl, rfl, hrow, hq1, hq2, hcell 0 _ rfl, hcell 1 _ rfl, hcell 2 _ rfl, hcell 3 _ rfl⟩
end

end Go.Proofs.Ythdcgplocdehjaa
