import Derived.Test.YteobjelenfjifaaDoorNa
namespace Go.Proofs.YteobjelenfjifaaDoor
open Go.RowKit Go.Proofs.Kit Go.Proofs.Nums

/-- A row of the call's own that has just been laid. -/
theorem NatAt.lit2 (w : World) (x y : Nat) (hx : x < 4294967296) (hy : y < 4294967296) : NatAt (w.alloc (.cells #[.int .u32 (x : Int), .int .u32 (y : Int)] 60)) (.slice (some ⟨w.heap.size, 0, none⟩) 2 2) [x, y] := by
  refine ⟨RowAt.owned (World.ownsRow_lit w #[.int .u32 (x : Int), .int .u32 (y : Int)] 2 (Nat.le_refl _) (by unfold maxLen; omega) rfl), Lim.cons hx (Lim.cons hy Lim.nil)⟩

set_option maxHeartbeats 1000000 in
theorem of_any (n : Nat) (w : World) (hn : n < 18446744073709551616) :
    Calls Tryd.prog 16 #[.int .u64 n] w fun e w' => ∃ v', e = .returned v' ∧ NatAt w' v' (limbs n) ∧ Below w.heap.size w w' := by
  have hlow : n % 4294967296 < 4294967296 := Nat.mod_lt _ (by omega)
  have hhigh : n / 4294967296 < 4294967296 := by omega
  have hA := NatAt.lit2 w (n % 4294967296) (n / 4294967296) hlow hhigh
  have hv : val [n % 4294967296, n / 4294967296] = n := by simp only [val]; omega
  have HA := Lib.hid hA
  have HV := Lib.hid hv
  clear hA hv
  go_enter Tryd.func16, Tryd.ntmps16
  go_wp2_with (go_at_call 20; refine (norm_any _ _ _ HA.out (by simp)).mono ?_; rw [HV.out]; rintro e w1 ⟨v1, rfl, hv1, hb1⟩)
  go_ret
  exact ⟨_, rfl, hv1, below_on hb1⟩

/-- An array of limbs of the call's own. -/
def OwnNat (w : World) (base g n cap : Nat) (o : List Nat) : Prop := o.length = n ∧ Lim o ∧ w.ownsRow base 60 1 (.slice (some ⟨g, 0, none⟩) n cap) n (o.map limbV)

theorem OwnNat.read {w : World} {base g n cap : Nat} {o : List Nat} (h : OwnNat w base g n cap o) : NatAt w (.slice (some ⟨g, 0, none⟩) n cap) o := ⟨RowAt.owned h.2.2, h.2.1⟩
theorem OwnNat.cell {w : World} {base g n cap : Nat} {o : List Nat} (h : OwnNat w base g n cap o) {j : Nat} (hj : j < n) : w.cell? ⟨g, j, none⟩ = some (.int .u32 ((nth o j : Nat) : Int)) := by
  rw [h.2.2.cellAt j (by omega), List.getElem?_map, List.getElem?_eq_getElem (by rw [h.1]; exact hj), nth_lt (by rw [h.1]; exact hj)]; rfl
theorem OwnNat.free {w : World} {base g n cap : Nat} {o : List Nat} (h : OwnNat w base g n cap o) (j : Nat) : w.frozen? ⟨g, j, none⟩ = false := h.2.2.frozenAt j
theorem OwnNat.put {w : World} {base g n cap : Nat} {o : List Nat} (h : OwnNat w base g n cap o) (j x : Nat) (hx : x < 4294967296) :
    OwnNat (w.setCell ⟨g, j, none⟩ (.int .u32 (x : Int))) base g n cap (o.set j x) ∧ Below base w (w.setCell ⟨g, j, none⟩ (.int .u32 (x : Int))) := by
  have hs := h.2.2.stored j (.int .u32 (x : Int))
  refine ⟨⟨by rw [List.length_set]; exact h.1, h.2.1.set j x hx, ?_⟩, ?_⟩
  · rw [List.map_set]; exact hs.1
  · exact (Below.refl base w).setCell (h.2.2.lt g rfl).1 _
theorem OwnNat.lt {w : World} {base g n cap : Nat} {o : List Nat} (h : OwnNat w base g n cap o) : base ≤ g ∧ g < w.heap.size := h.2.2.lt g rfl
theorem OwnNat.keep {w w' : World} {base g n cap : Nat} {o : List Nat} (h : OwnNat w base g n cap o) (hb : Below w.heap.size w w') : OwnNat w' base g n cap o := ⟨h.1, h.2.1, ownsRow_below h.2.2 hb⟩
theorem OwnNat.made {w : World} {base g n cap : Nat} (h : w.ownsRow base 60 1 (.slice (some ⟨g, 0, none⟩) n cap) n (madeCells (Value.int .u32 0).cells (n * 1)).toList) : OwnNat w base g n cap (List.replicate n 0) := by
  refine ⟨List.length_replicate, Lim.zeros n, ?_⟩
  rw [show (Value.int IntKind.u32 0).cells = #[.int .u32 0] from rfl, toList_madeCells_one, Nat.mul_one] at h
  rw [List.map_replicate]; exact h

set_option maxHeartbeats 2000000 in
theorem add_any (va vb : Value) (a b : List Nat) (w : World) (ha : NatAt w va a) (hb : NatAt w vb b) (hla : a.length ≤ 1000000) (hlb : b.length ≤ 1000000) :
    Calls Tryd.prog 25 #[va, vb] w fun e w' => ∃ v', e = .returned v' ∧ NatAt w' v' (limbs (val a + val b)) ∧ Below w.heap.size w w' := by
  obtain ⟨x, hx⟩ : ∃ x, limbs (val a) = x := ⟨_, rfl⟩
  obtain ⟨y, hy⟩ : ∃ y, limbs (val b) = y := ⟨_, rfl⟩
  have hxl : x.length ≤ 1000000 := by rw [← hx]; exact Nat.le_trans (limbs_len_le _ _ (val_lt a ha.2)) hla
  have hyl : y.length ≤ 1000000 := by rw [← hy]; exact Nat.le_trans (limbs_len_le _ _ (val_lt b hb.2)) hlb
  have hxv : val x = val a := by rw [← hx, val_limbs]
  have hyv : val y = val b := by rw [← hy, val_limbs]
  have ca := trim_any va a w ha
  have cb := trim_any vb b w hb
  rw [hx] at ca
  rw [hy] at cb
  have CA := Lib.hid ca
  have CB := Lib.hid cb
  have HXV := Lib.hid hxv
  have HYV := Lib.hid hyv
  obtain ⟨i0, hi, hz0, hz1, hz2⟩ := info_parts er24.hi
  have hfin : ∀ k cc, x.length ≤ k → y.length ≤ k → ∀ o : List Nat, o.length = k + 1 → val (o.take k) + 4294967296 ^ k * cc = val (x.take k) + val (y.take k) → cc ≤ 1 → val (o.set k cc) = val a + val b := by
    intro k cc h1 h2 o h3 h4 h5
    rw [← val_take_all (l := o.set k cc) (k := k + 1) (by rw [List.length_set]; omega), val_take_set _ _ _ (by omega), h4, val_take_all h1, val_take_all h2, hxv, hyv]
  have HFIN := Lib.hid hfin
  clear ha hb hla hlb hx hy hxv hyv ca cb hfin
  by_cases hxy : x.length < y.length
  all_goals go_enter Tryd.func25, Tryd.ntmps25
  all_goals
    go_wp2_with (first
      | (go_at_call 40; ((with_reducible refine CA.out.mono ?_); rintro e w1 ⟨v1, rfl, hv1, rfl⟩; obtain ⟨p1, c1, rfl⟩ := hv1.shape))
      | (go_at_call 40; ((with_reducible refine CB.out.mono ?_); rintro e w2 ⟨v2, rfl, hv2, rfl⟩; obtain ⟨p2, c2, rfl⟩ := hv2.shape))
      | (at_make; go_must (refine make_any er24 rfl rfl rfl rfl (by omega) (by omega) (by omega) ?_); intro w3 hown3 hb3))
  generalize hn : y.length = n at *
  rotate_left
  generalize hn : x.length = n at *
  rotate_left
  all_goals
    have HN := Lib.hid hn
    clear hn
    have V1 := Lib.hid hv1
    have V2 := Lib.hid hv2
    rw [show ((n : Int) + 1).toNat = n + 1 by omega] at hown3
    have hown := OwnNat.made hown3
    clear hv1 hv2 CA CB hown3
    go_wp2_with fail
    go_loopw [7, 23] (fun c i wr => ∃ k cc : Nat, ∃ o : List Nat, k ≤ n ∧ cc ≤ 1 ∧ i = .int .i64 k ∧ c = .int .u64 cc ∧ OwnNat wr w.heap.size w.heap.size (n+1) (n+1) o ∧ Below w.heap.size w wr ∧
        Hid (val (o.take k) + 4294967296 ^ k * cc = val (x.take k) + val (y.take k))) (fun _ i _ => n - (intOf i).toNat)
    case atStart => exact ⟨0, 0, _, by omega, by omega, rfl, rfl, hown, hb3, Lib.hid (by simp [val])⟩
    case round =>
      obtain ⟨k, cc, o, hk, hcc, rfl, rfl, hO, hbel, hP⟩ := hrel
      by_cases hlt : k < n
      · have hx1 := V1.out.2.nth k
        have hy1 := V2.out.2.nth k
        have LA := Lib.hid (limb_any _ x k wr (V1.out.keep hbel))
        have LB := Lib.hid (limb_any _ y k wr (V2.out.keep hbel))
        have hcell := hO.cell (j := k) (by omega)
        have hfree := hO.free k
        have HO := Lib.hid hO
        clear hO
        go_wp2_with (first
          | (go_at_call 43; ((with_reducible refine LA.out.mono ?_); rintro e w4 ⟨rfl, rfl⟩))
          | (go_at_call 43; ((with_reducible refine LB.out.mono ?_); rintro e w5 ⟨rfl, rfl⟩)))
        obtain ⟨t, ht⟩ : ∃ t, t = nth x k + nth y k + cc := ⟨_, rfl⟩
        have e1 : ((nth x k : Int) + (nth y k : Int) + (cc : Int)) % 4294967296 = ((t % 4294967296 : Nat) : Int) := by omega
        have e2 : ((nth x k : Int) + (nth y k : Int) + (cc : Int)) / 4294967296 = ((t / 4294967296 : Nat) : Int) := by omega
        have hput := HO.out.put k (t % 4294967296) (Nat.mod_lt _ (by omega))
        have hlo := HO.out.1
        go_roundw
        case rel =>
          rw [e1, e2]
          exact ⟨k + 1, t / 4294967296, o.set k (t % 4294967296), by omega, by omega, by go_num, rfl, hput.1, hbel.trans hput.2, Lib.hid (add_step (by omega) ht hP.out)⟩
        case measure => simp [intOf]; omega
      · obtain rfl : k = n := by omega
        have hcell := hO.cell (j := k) (by omega)
        have hfree := hO.free k
        have hput := hO.put k cc (by omega)
        have hval : Hid (val (o.set k cc) = val a + val b) := Lib.hid (HFIN.out k cc (by omega) (by omega) o hO.1 hP.out (by omega))
        have hlen : (o.set k cc).length ≤ 1000000000 := by rw [List.length_set, hO.1]; omega
        have HPUT := Lib.hid hput
        have HLEN := Lib.hid hlen
        clear hput hlen hO
        go_wp2_with (go_at_call 20; refine (norm_any _ _ _ HPUT.out.1.read HLEN.out).mono ?_; rw [hval.out]; rintro e w4 ⟨v4, rfl, hv4, hb4⟩)
        go_ret
        exact ⟨_, rfl, hv4, (hbel.trans HPUT.out.2).trans (hb4.mono (hbel.trans HPUT.out.2).size)⟩

end Go.Proofs.YteobjelenfjifaaDoor
