/- Contracts and plain facts, part 3: MA, MB. No condition beyond those that each theorem states. -/
import Derived.Test.YtbnhgmikegdppaaGreatQB
import Derived.Test.YtbnhgmikegdppaaGreatRows
import Derived.Laws.Bits64b
namespace Go.Proofs.YtbnhgmikegdppaaGreat
open Go.RowKit Go.Proofs.Kit Go.Proofs.Nums

theorem ret_val {a b : Value} (h : a = b) : Ending.returned a = .returned b := by rw [h]

def limbV (x : Nat) : Value := .int .u32 (x : Int)

/-- v reads as the limbs l. -/
def NatAt (w : World) (v : Value) (l : List Nat) : Prop := RowAt w v (l.map limbV) ∧ Lim l

theorem NatAt.keep {w w' : World} {v : Value} {l : List Nat} (h : NatAt w v l) (hb : Below w.heap.size w w') : NatAt w' v l := ⟨h.1.keep hb, h.2⟩
theorem NatAt.on {w w' : World} {o : Obj} {v : Value} {l : List Nat} (h : NatAt w v l) (hb : Below (w.alloc o).heap.size (w.alloc o) w') : NatAt w' v l := ⟨h.1.on hb, h.2⟩
theorem NatAt.alloc {w : World} {v : Value} {l : List Nat} (h : NatAt w v l) (o : Obj) : NatAt (w.alloc o) v l := ⟨h.1.alloc o, h.2⟩
theorem NatAt.nil (w : World) : NatAt w (.slice none 0 0) [] := ⟨RowAt.nil w, Lim.nil⟩

/-- Its shape: empty, or a row of cells. -/
theorem NatAt.cases {w : World} {v : Value} {l : List Nat} (h : NatAt w v l) :
    (l = [] ∧ ∃ p cap, v = .slice p 0 cap ∧ cap ≤ 9223372036854775807 ∧ (p = none → cap = 0)) ∨
    (0 < l.length ∧ ∃ b off cap, v = .slice (some ⟨b, off, none⟩) l.length cap ∧ l.length ≤ cap ∧ cap ≤ 9223372036854775807 ∧ b < w.heap.size ∧ ∀ i, i < l.length → w.cell? ⟨b, off + i, none⟩ = some (.int .u32 ((nth l i : Nat) : Int))) := by
  rcases h.1.cases with ⟨h1, h2⟩ | ⟨h1, b, off, cap, hv, hc, hm, hb, hcell⟩
  · left; exact ⟨by simpa using h1, h2⟩
  · right
    rw [List.length_map] at h1 hv hc
    refine ⟨h1, b, off, cap, hv, hc, hm, hb, fun i hi => ?_⟩
    refine hcell i _ ?_
    rw [List.getElem?_map, List.getElem?_eq_getElem hi, nth_lt hi]
    rfl

theorem NatAt.shape {w : World} {v : Value} {l : List Nat} (h : NatAt w v l) : ∃ p c, v = .slice p l.length c := by
  obtain ⟨p, c, hv, _⟩ := h.1
  rw [List.length_map] at hv
  exact ⟨p, c, hv⟩

theorem er49 : ElemRow Tryz.prog 49 119 (.int .u32 0) 1 4 := ⟨Tryz.underlying49, by kernel_rfl, rfl, by decide⟩

theorem norm_take {l : List Nat} {k : Nat} (hk : k + 1 ≤ l.length) (h : nth l k ≠ 0) : Norm (l.take (k+1)) := by
  unfold Norm
  rw [List.take_succ_eq_append_getElem (by omega), List.getLast?_append]
  simp
  rw [nth_lt (by omega)] at h
  exact h

theorem val_drop_step {l : List Nat} {k : Nat} (hk : k < l.length) (h : nth l k = 0) (hz : val (l.drop (k+1)) = 0) : val (l.drop k) = 0 := by
  rw [List.drop_eq_getElem_cons hk, val, hz]
  rw [nth_lt hk] at h
  omega

set_option maxHeartbeats 1000000 in
theorem trim_any (v : Value) (l : List Nat) (w : World) (h : NatAt w v l) :
    Calls Tryz.prog 96 #[v] w fun e w' => ∃ v', e = .returned v' ∧ NatAt w v' (limbs (val l)) ∧ w = w' := by
  rcases h.cases with ⟨rfl, p, cap, rfl, _, _⟩ | ⟨h1, b, off, cap, rfl, hc, hm, hb, hcell⟩
  · clear h
    go_enter Tryz.func96, Tryz.ntmps96
    go_wp2_with fail
    refine wp_loop_rounds 1 ?_
    rw [rounds_succ]
    go_wp2_with fail
    go_ret
    exact ⟨_, rfl, NatAt.nil w, rfl⟩
  · have H := Lib.hid h
    have HC := Lib.hid hcell
    clear h hcell
    go_enter Tryz.func96, Tryz.ntmps96
    go_wp2_with fail
    go_loop [3] (fun i => ∃ k : Nat, k ≤ l.length ∧ i = .int .i64 k ∧ Hid (val (l.drop k) = 0)) (fun i => (intOf i).toNat)
    case atStart => exact ⟨l.length, Nat.le_refl _, rfl, Lib.hid (by rw [List.drop_length]; rfl)⟩
    case round =>
      obtain ⟨k, hk, rfl, hP⟩ := hrel
      by_cases h0 : 0 < k
      · obtain ⟨m, rfl⟩ : ∃ m, k = m + 1 := ⟨k - 1, by omega⟩
        have hcm := HC.out m (by omega)
        cases hz : (((nth l m : Nat) : Int) == 0)
        · have hN : Hid (limbs (val l) = l.take (m + 1)) := Lib.hid (limbs_trim l H.out.2 (m+1) hP.out (norm_take hk (by simpa using hz)))
          go_wp2_with fail
          go_ret
          refine ⟨_, rfl, ⟨?_, limbs_lim _⟩, rfl⟩
          rw [hN.out, List.map_take]
          exact RowAt.take H.out.1 (m+1) (by rw [List.length_map]; exact hk)
        · have HZ : Hid (val (l.drop m) = 0) := Lib.hid (val_drop_step (by omega) (by simpa using hz) hP.out)
          go_wp2_with fail
          go_round
          case rel => exact ⟨m, by omega, by go_num, HZ⟩
          case measure => simp [intOf]
      · obtain rfl : k = 0 := by omega
        have hN : Hid (limbs (val l) = []) := Lib.hid (by have := hP.out; rw [List.drop_zero] at this; rw [this]; rfl)
        clear h0
        go_wp2_with fail
        go_ret
        exact ⟨_, rfl, by rw [hN.out]; exact NatAt.nil w, rfl⟩

set_option maxHeartbeats 1000000 in
theorem limb_any (v : Value) (l : List Nat) (i : Nat) (w : World) (h : NatAt w v l) :
    Calls Tryz.prog 111 #[v, .int .i64 i] w fun e w' => e = .returned (.int .u64 ((nth l i : Nat) : Int)) ∧ w = w' := by
  have hL := h.2.nth i
  rcases h.cases with ⟨rfl, p, cap, rfl, _, _⟩ | ⟨h1, b, off, cap, rfl, hc, hm, hb, hcell⟩
  · clear h
    go_enter Tryz.func111, Tryz.ntmps111
    go_wp2_with fail
    go_ret
    exact ⟨rfl, rfl⟩
  · clear h
    by_cases hi : i < l.length
    · have hci := hcell i hi
      clear hcell
      go_enter Tryz.func111, Tryz.ntmps111
      go_wp2_with fail
      go_ret
      exact ⟨rfl, rfl⟩
    · have h0 : Hid (nth l i = 0) := Lib.hid (nth_ge (by omega))
      clear hcell
      go_enter Tryz.func111, Tryz.ntmps111
      go_wp2_with fail
      go_ret
      exact ⟨by rw [h0.out]; rfl, rfl⟩

set_option maxHeartbeats 1000000 in
theorem clone_any (v : Value) (l : List Nat) (w : World) (h : NatAt w v l) (hl : l.length ≤ 1000000000) :
    Calls Tryz.prog 99 #[v] w fun e w' => ∃ v', e = .returned v' ∧ NatAt w' v' l ∧ Below w.heap.size w w' := by
  have own0 : ∀ w : World, (w.alloc (.cells #[] 119)).ownsRow w.heap.size 119 1 (.slice (some ⟨w.heap.size, 0, none⟩) 0 0) 0 [] := fun w =>
    World.ownsRow_lit w #[] 0 (Nat.le_refl _) (Nat.zero_le _) rfl
  rcases h.cases with ⟨rfl, p, cap, rfl, _, h3⟩ | ⟨h1, b, off, cap, rfl, hc, hm, hb, hcell⟩
  · cases p with
    | none =>
      obtain rfl := h3 rfl
      have H := Lib.hid h
      clear h hl
      have heqn := fun (w : World) (a : Option Addr) (n c : Nat) => Lib.run_eql_slice_nil (P := Tryz.prog) w 49 119 a n c 0 0 Tryz.underlying49
      go_enter Tryz.func99, Tryz.ntmps99
      go_wp2_with fail
      go_ret
      exact ⟨_, rfl, NatAt.nil w, Below.refl _ _⟩
    | some q =>
      have H := Lib.hid h
      have O := Lib.hid (own0 w)
      clear h own0 hl
      have heqn := fun (w : World) (a : Option Addr) (n c : Nat) => Lib.run_eql_slice_nil (P := Tryz.prog) w 49 119 a n c 0 0 Tryz.underlying49
      go_enter Tryz.func99, Tryz.ntmps99
      go_wp2_with (at_builtin; (refine append_row er49 (base := w.heap.size) (n := 0) (xs := []) (news := []) (by rfl) (by rfl) O.out (by rfl) (by rfl) (by rfl) (fun j u h => by simp at h) (fun u h => by simp at h) (by omega) (by omega) (by simp) ?_); intro v' w1 hown1 _ hb1)
      go_ret
      refine ⟨_, rfl, ⟨by simpa using RowAt.owned hown1, Lim.nil⟩, (below_new hb1)⟩
  · have H := Lib.hid h
    have O := Lib.hid (own0 w)
    have hcells : ∀ j u, (l.map limbV)[j]? = some u → (w.alloc (.cells #[] 119)).cell? ((⟨b, off, none⟩ : Addr).add j) = some u := fun j u hj => by
      rw [Addr.add_lit]
      refine cell_alloc_old ?_
      rw [List.getElem?_map] at hj
      cases hlj : l[j]? with
      | none => rw [hlj] at hj; simp at hj
      | some x =>
        have hjl := (List.getElem?_eq_some_iff.1 hlj).1
        rw [hlj] at hj
        simp at hj
        rw [hcell j hjl, nth_lt hjl, (List.getElem?_eq_some_iff.1 hlj).2, ← hj]
        rfl
    have HCS := Lib.hid hcells
    have hone : ∀ u ∈ l.map limbV, u.oneCell' = true := fun u hu => by
      obtain ⟨x, _, rfl⟩ := List.mem_map.1 hu; rfl
    have HO := Lib.hid hone
    clear h hcell own0 hcells hone
    have heqn := fun (w : World) (a : Option Addr) (n c : Nat) => Lib.run_eql_slice_nil (P := Tryz.prog) w 49 119 a n c 0 0 Tryz.underlying49
    go_enter Tryz.func99, Tryz.ntmps99
    go_wp2_with (at_builtin; go_must (refine append_row er49 (base := w.heap.size) (n := 0) (xs := []) (news := l.map limbV) (by rfl) (by rfl) O.out (by rfl) (by rfl) (by rw [List.length_map, Nat.mul_one]) HCS.out HO.out (by omega) (by omega) (by simp) ?_); intro v' w1 hown1 _ hb1)
    go_ret
    refine ⟨_, rfl, ⟨by simpa using RowAt.owned hown1, H.out.2⟩, (below_new hb1)⟩

/-- Norm. -/
theorem norm_any (v : Value) (l : List Nat) (w : World) (h : NatAt w v l) (hl : l.length ≤ 1000000000) :
    Calls Tryz.prog 88 #[v] w fun e w' => ∃ v', e = .returned v' ∧ NatAt w' v' (limbs (val l)) ∧ Below w.heap.size w w' := by
  have hlen : (limbs (val l)).length ≤ 1000000000 := Nat.le_trans (limbs_len_le _ _ (val_lt l h.2)) hl
  have H := Lib.hid h
  clear h
  go_enter Tryz.func88, Tryz.ntmps88
  go_wp2_with (first
    | (go_at_call 96; refine (trim_any _ _ _ H.out).mono ?_; rintro e w1 ⟨v1, rfl, hv1, rfl⟩)
    | (go_at_call 99; refine (clone_any _ _ _ hv1 hlen).mono ?_; rintro e w2 ⟨v2, rfl, hv2, hb2⟩))
  go_ret
  exact ⟨_, rfl, hv2, hb2⟩

end Go.Proofs.YtbnhgmikegdppaaGreat

namespace Go.Proofs.YtbnhgmikegdppaaGreat
open Go.RowKit Go.Proofs.Kit Go.Proofs.Nums

/-- A row of the call's own that has just been laid. -/
theorem NatAt.lit2 (w : World) (x y : Nat) (hx : x < 4294967296) (hy : y < 4294967296) : NatAt (w.alloc (.cells #[.int .u32 (x : Int), .int .u32 (y : Int)] 119)) (.slice (some ⟨w.heap.size, 0, none⟩) 2 2) [x, y] := by
  refine ⟨RowAt.owned (World.ownsRow_lit w #[.int .u32 (x : Int), .int .u32 (y : Int)] 2 (Nat.le_refl _) (by unfold maxLen; omega) rfl), Lim.cons hx (Lim.cons hy Lim.nil)⟩

set_option maxHeartbeats 1000000 in
theorem of_any (n : Nat) (w : World) (hn : n < 18446744073709551616) :
    Calls Tryz.prog 70 #[.int .u64 n] w fun e w' => ∃ v', e = .returned v' ∧ NatAt w' v' (limbs n) ∧ Below w.heap.size w w' := by
  have hlow : n % 4294967296 < 4294967296 := Nat.mod_lt _ (by omega)
  have hhigh : n / 4294967296 < 4294967296 := by omega
  have hA := NatAt.lit2 w (n % 4294967296) (n / 4294967296) hlow hhigh
  have hv : val [n % 4294967296, n / 4294967296] = n := by simp only [val]; omega
  have HA := Lib.hid hA
  have HV := Lib.hid hv
  clear hA hv
  go_enter Tryz.func70, Tryz.ntmps70
  go_wp2_with (go_at_call 88; refine (norm_any _ _ _ HA.out (by simp)).mono ?_; rw [HV.out]; rintro e w1 ⟨v1, rfl, hv1, hb1⟩)
  go_ret
  exact ⟨_, rfl, hv1, below_on hb1⟩

/-- An array of limbs of the call's own. -/
def OwnNat (w : World) (base g n cap : Nat) (o : List Nat) : Prop := o.length = n ∧ Lim o ∧ w.ownsRow base 119 1 (.slice (some ⟨g, 0, none⟩) n cap) n (o.map limbV)

theorem OwnNat.read {w : World} {base g n cap : Nat} {o : List Nat} (h : OwnNat w base g n cap o) : NatAt w (.slice (some ⟨g, 0, none⟩) n cap) o := ⟨RowAt.owned h.2.2, h.2.1⟩
theorem OwnNat.cell {w : World} {base g n cap : Nat} {o : List Nat} (h : OwnNat w base g n cap o) {j : Nat} (hj : j < n) : w.cell? ⟨g, j, none⟩ = some (.int .u32 ((nth o j : Nat) : Int)) := by
  rw [h.2.2.cellAt j (by omega), List.getElem?_map, List.getElem?_eq_getElem (by rw [h.1]; exact hj), nth_lt (by rw [h.1]; exact hj)]; rfl
theorem OwnNat.free {w : World} {base g n cap : Nat} {o : List Nat} (h : OwnNat w base g n cap o) (j : Nat) : w.frozen? ⟨g, j, none⟩ = false := h.2.2.frozenAt j
theorem OwnNat.put {w : World} {base g n cap : Nat} {o : List Nat} (h : OwnNat w base g n cap o) (j x : Nat) (hx : x < 4294967296) :
    OwnNat (w.setCell ⟨g, j, none⟩ (.int .u32 (x : Int))) base g n cap (o.set j x) ∧ Below base w (w.setCell ⟨g, j, none⟩ (.int .u32 (x : Int))) := by
  have hs := h.2.2.stored j (.int .u32 (x : Int))
  refine ⟨⟨by rw [List.length_set]; exact h.1, h.2.1.set j x hx, ?_⟩, ?_⟩
  · rw [List.map_set]; exact hs.1
  · exact (Below.refl base w).setCell (h.2.2.lt g rfl).1 _
theorem OwnNat.lt {w : World} {base g n cap : Nat} {o : List Nat} (h : OwnNat w base g n cap o) : base ≤ g ∧ g < w.heap.size := h.2.2.lt g rfl
theorem OwnNat.keep {w w' : World} {base g n cap : Nat} {o : List Nat} (h : OwnNat w base g n cap o) (hb : Below w.heap.size w w') : OwnNat w' base g n cap o := ⟨h.1, h.2.1, ownsRow_below h.2.2 hb⟩
theorem OwnNat.made {w : World} {base g n cap : Nat} (h : w.ownsRow base 119 1 (.slice (some ⟨g, 0, none⟩) n cap) n (madeCells (Value.int .u32 0).cells (n * 1)).toList) : OwnNat w base g n cap (List.replicate n 0) := by
  refine ⟨List.length_replicate, Lim.zeros n, ?_⟩
  rw [show (Value.int IntKind.u32 0).cells = #[.int .u32 0] from rfl, toList_madeCells_one, Nat.mul_one] at h
  rw [List.map_replicate]; exact h

set_option maxHeartbeats 2000000 in
theorem add_any (va vb : Value) (a b : List Nat) (w : World) (ha : NatAt w va a) (hb : NatAt w vb b) (hla : a.length ≤ 1000000) (hlb : b.length ≤ 1000000) :
    Calls Tryz.prog 126 #[va, vb] w fun e w' => ∃ v', e = .returned v' ∧ NatAt w' v' (limbs (val a + val b)) ∧ Below w.heap.size w w' := by
  obtain ⟨x, hx⟩ : ∃ x, limbs (val a) = x := ⟨_, rfl⟩
  obtain ⟨y, hy⟩ : ∃ y, limbs (val b) = y := ⟨_, rfl⟩
  have hxl : x.length ≤ 1000000 := by rw [← hx]; exact Nat.le_trans (limbs_len_le _ _ (val_lt a ha.2)) hla
  have hyl : y.length ≤ 1000000 := by rw [← hy]; exact Nat.le_trans (limbs_len_le _ _ (val_lt b hb.2)) hlb
  have hxv : val x = val a := by rw [← hx, val_limbs]
  have hyv : val y = val b := by rw [← hy, val_limbs]
  have ca := trim_any va a w ha
  have cb := trim_any vb b w hb
  rw [hx] at ca
  rw [hy] at cb
  have CA := Lib.hid ca
  have CB := Lib.hid cb
  have HXV := Lib.hid hxv
  have HYV := Lib.hid hyv
  obtain ⟨i0, hi, hz0, hz1, hz2⟩ := info_parts er49.hi
  have hfin : ∀ k cc, x.length ≤ k → y.length ≤ k → ∀ o : List Nat, o.length = k + 1 → val (o.take k) + 4294967296 ^ k * cc = val (x.take k) + val (y.take k) → cc ≤ 1 → val (o.set k cc) = val a + val b := by
    intro k cc h1 h2 o h3 h4 h5
    rw [← val_take_all (l := o.set k cc) (k := k + 1) (by rw [List.length_set]; omega), val_take_set _ _ _ (by omega), h4, val_take_all h1, val_take_all h2, hxv, hyv]
  have HFIN := Lib.hid hfin
  clear ha hb hla hlb hx hy hxv hyv ca cb hfin
  by_cases hxy : x.length < y.length
  all_goals go_enter Tryz.func126, Tryz.ntmps126
  all_goals
    go_wp2_with (first
      | (go_at_call 96; ((with_reducible refine CA.out.mono ?_); rintro e w1 ⟨v1, rfl, hv1, rfl⟩; obtain ⟨p1, c1, rfl⟩ := hv1.shape))
      | (go_at_call 96; ((with_reducible refine CB.out.mono ?_); rintro e w2 ⟨v2, rfl, hv2, rfl⟩; obtain ⟨p2, c2, rfl⟩ := hv2.shape))
      | (at_make; go_must (refine make_any er49 rfl rfl rfl rfl (by omega) (by omega) (by omega) ?_); intro w3 hown3 hb3))
  generalize hn : y.length = n at *
  rotate_left
  generalize hn : x.length = n at *
  rotate_left
  all_goals
    have HN := Lib.hid hn
    clear hn
    have V1 := Lib.hid hv1
    have V2 := Lib.hid hv2
    rw [show ((n : Int) + 1).toNat = n + 1 by omega] at hown3
    have hown := OwnNat.made hown3
    clear hv1 hv2 CA CB hown3
    go_wp2_with fail
    go_loopw [7, 23] (fun c i wr => ∃ k cc : Nat, ∃ o : List Nat, k ≤ n ∧ cc ≤ 1 ∧ i = .int .i64 k ∧ c = .int .u64 cc ∧ OwnNat wr w.heap.size w.heap.size (n+1) (n+1) o ∧ Below w.heap.size w wr ∧
        Hid (val (o.take k) + 4294967296 ^ k * cc = val (x.take k) + val (y.take k))) (fun _ i _ => n - (intOf i).toNat)
    case atStart => exact ⟨0, 0, _, by omega, by omega, rfl, rfl, hown, hb3, Lib.hid (by simp [val])⟩
    case round =>
      obtain ⟨k, cc, o, hk, hcc, rfl, rfl, hO, hbel, hP⟩ := hrel
      by_cases hlt : k < n
      · have hx1 := V1.out.2.nth k
        have hy1 := V2.out.2.nth k
        have LA := Lib.hid (limb_any _ x k wr (V1.out.keep hbel))
        have LB := Lib.hid (limb_any _ y k wr (V2.out.keep hbel))
        have hcell := hO.cell (j := k) (by omega)
        have hfree := hO.free k
        have HO := Lib.hid hO
        clear hO
        go_wp2_with (first
          | (go_at_call 111; ((with_reducible refine LA.out.mono ?_); rintro e w4 ⟨rfl, rfl⟩))
          | (go_at_call 111; ((with_reducible refine LB.out.mono ?_); rintro e w5 ⟨rfl, rfl⟩)))
        obtain ⟨t, ht⟩ : ∃ t, t = nth x k + nth y k + cc := ⟨_, rfl⟩
        have e1 : ((nth x k : Int) + (nth y k : Int) + (cc : Int)) % 4294967296 = ((t % 4294967296 : Nat) : Int) := by omega
        have e2 : ((nth x k : Int) + (nth y k : Int) + (cc : Int)) / 4294967296 = ((t / 4294967296 : Nat) : Int) := by omega
        have hput := HO.out.put k (t % 4294967296) (Nat.mod_lt _ (by omega))
        have hlo := HO.out.1
        go_roundw
        case rel =>
          rw [e1, e2]
          exact ⟨k + 1, t / 4294967296, o.set k (t % 4294967296), by omega, by omega, by go_num, rfl, hput.1, hbel.trans hput.2, Lib.hid (add_step (by omega) ht hP.out)⟩
        case measure => simp [intOf]; omega
      · obtain rfl : k = n := by omega
        have hcell := hO.cell (j := k) (by omega)
        have hfree := hO.free k
        have hput := hO.put k cc (by omega)
        have hval : Hid (val (o.set k cc) = val a + val b) := Lib.hid (HFIN.out k cc (by omega) (by omega) o hO.1 hP.out (by omega))
        have hlen : (o.set k cc).length ≤ 1000000000 := by rw [List.length_set, hO.1]; omega
        have HPUT := Lib.hid hput
        have HLEN := Lib.hid hlen
        clear hput hlen hO
        go_wp2_with (go_at_call 88; refine (norm_any _ _ _ HPUT.out.1.read HLEN.out).mono ?_; rw [hval.out]; rintro e w4 ⟨v4, rfl, hv4, hb4⟩)
        go_ret
        exact ⟨_, rfl, hv4, (hbel.trans HPUT.out.2).trans (hb4.mono (hbel.trans HPUT.out.2).size)⟩

theorem NatAt.lit1 (w : World) (x : Nat) (hx : x < 4294967296) : NatAt (w.alloc (.cells #[.int .u32 (x : Int)] 119)) (.slice (some ⟨w.heap.size, 0, none⟩) 1 1) [x] := by
  refine ⟨RowAt.owned (World.ownsRow_lit w #[.int .u32 (x : Int)] 1 (Nat.le_refl _) (by unfold maxLen; omega) rfl), Lim.cons hx Lim.nil⟩

end Go.Proofs.YtbnhgmikegdppaaGreat

namespace Go.Proofs.YtbnhgmikegdppaaGreat
open Go.RowKit Go.Proofs.Kit Go.Proofs.Nums

theorem ret_i {k : IntKind} {a b : Int} (h : a = b) : Ending.returned (.int k a) = .returned (.int k b) := by rw [h]

set_option maxHeartbeats 2000000 in
theorem cmp_any (va vb : Value) (a b : List Nat) (w : World) (ha : NatAt w va a) (hb : NatAt w vb b) (hla : a.length ≤ 1000000) (hlb : b.length ≤ 1000000) :
    Calls Tryz.prog 98 #[va, vb] w fun e w' => e = .returned (.int .i64 (cmpN (val a) (val b))) ∧ Below w.heap.size w w' := by
  obtain ⟨x, hx⟩ : ∃ x, limbs (val a) = x := ⟨_, rfl⟩
  obtain ⟨y, hy⟩ : ∃ y, limbs (val b) = y := ⟨_, rfl⟩
  have hxl : x.length ≤ 1000000 := by rw [← hx]; exact Nat.le_trans (limbs_len_le _ _ (val_lt a ha.2)) hla
  have hyl : y.length ≤ 1000000 := by rw [← hy]; exact Nat.le_trans (limbs_len_le _ _ (val_lt b hb.2)) hlb
  have ca := trim_any va a w ha
  have cb := trim_any vb b w hb
  rw [hx] at ca
  rw [hy] at cb
  have CA := Lib.hid ca
  have CB := Lib.hid cb
  by_cases hl1 : x.length < y.length
  · have hR : Hid (cmpN (val a) (val b) = -1) := Lib.hid (cmpN_lt (len_lt (by rw [hx, hy]; exact hl1)))
    have hne : ((x.length : Int) != (y.length : Int)) = true := by rw [bne_iff_ne]; omega
    clear ha hb hla hlb hx hy ca cb
    go_enter Tryz.func98, Tryz.ntmps98
    go_wp2_with (first
      | (go_at_call 96; ((with_reducible refine CA.out.mono ?_); rintro e w1 ⟨v1, rfl, hv1, rfl⟩; obtain ⟨p1, c1, rfl⟩ := hv1.shape))
      | (go_at_call 96; ((with_reducible refine CB.out.mono ?_); rintro e w2 ⟨v2, rfl, hv2, rfl⟩; obtain ⟨p2, c2, rfl⟩ := hv2.shape)))
    go_ret
    exact ⟨ret_i (by rw [hR.out]), Below.refl _ _⟩
  by_cases hl2 : y.length < x.length
  · have hR : Hid (cmpN (val a) (val b) = 1) := Lib.hid (cmpN_gt (len_lt (by rw [hx, hy]; exact hl2)))
    have hne : ((x.length : Int) != (y.length : Int)) = true := by rw [bne_iff_ne]; omega
    clear ha hb hla hlb hx hy ca cb
    go_enter Tryz.func98, Tryz.ntmps98
    go_wp2_with (first
      | (go_at_call 96; ((with_reducible refine CA.out.mono ?_); rintro e w1 ⟨v1, rfl, hv1, rfl⟩; obtain ⟨p1, c1, rfl⟩ := hv1.shape))
      | (go_at_call 96; ((with_reducible refine CB.out.mono ?_); rintro e w2 ⟨v2, rfl, hv2, rfl⟩; obtain ⟨p2, c2, rfl⟩ := hv2.shape)))
    go_ret
    exact ⟨ret_i (by rw [hR.out]), Below.refl _ _⟩
  have hne : ((x.length : Int) != (y.length : Int)) = false := by
    rw [show x.length = y.length by omega]; simp
  have hxv : Hid (val x = val a) := Lib.hid (by rw [← hx, val_limbs])
  have hyv : Hid (val y = val b) := Lib.hid (by rw [← hy, val_limbs])
  clear ha hb hla hlb hx hy ca cb
  go_enter Tryz.func98, Tryz.ntmps98
  go_wp2_with (first
    | (go_at_call 96; ((with_reducible refine CA.out.mono ?_); rintro e w1 ⟨v1, rfl, hv1, rfl⟩; obtain ⟨p1, c1, rfl⟩ := hv1.shape))
    | (go_at_call 96; ((with_reducible refine CB.out.mono ?_); rintro e w2 ⟨v2, rfl, hv2, rfl⟩; obtain ⟨p2, c2, rfl⟩ := hv2.shape)))
  have V1 := Lib.hid hv1
  have V2 := Lib.hid hv2
  clear hv1 hv2 CA CB
  go_loopw [5] (fun i wr => ∃ k : Nat, k ≤ x.length ∧ i = .int .i64 ((k : Int) - 1) ∧ (∃ n, wr = w.drewN n) ∧ Hid (x.drop k = y.drop k)) (fun i _ => (intOf i + 1).toNat)
  case atStart => exact ⟨x.length, by omega, rfl, ⟨0, rfl⟩, Lib.hid (by rw [List.drop_length, List.drop_of_length_le (by omega)])⟩
  case round =>
    obtain ⟨k, hk, rfl, ⟨n, rfl⟩, hP⟩ := hrel
    by_cases h0 : 0 < k
    · obtain ⟨m, rfl⟩ : ∃ m, k = m + 1 := ⟨k - 1, by omega⟩
      rcases V1.out.cases with ⟨hx0, _⟩ | ⟨_, b1, o1, k1, hv1, hk1, hm1, hb1, hcell1⟩
      · rw [hx0] at hk; simp at hk
      rcases V2.out.cases with ⟨hy0, _⟩ | ⟨_, b2, o2, k2, hv2, hk2, hm2, hb2, hcell2⟩
      · exfalso; rw [hy0] at hl2; simp only [List.length_nil] at hl2; omega
      simp only [Value.slice.injEq] at hv1 hv2
      obtain ⟨rfl, _, rfl⟩ := hv1
      obtain ⟨rfl, _, rfl⟩ := hv2
      have q1 := hcell1 m (by omega)
      have q2 := hcell2 m (by omega)
      clear hcell1 hcell2
      by_cases hlt : nth x m < nth y m
      · have hR : Hid (cmpN (val a) (val b) = -1) := Lib.hid (by rw [← hxv.out, ← hyv.out]; exact cmpN_lt (val_lt_of V1.out.2 (by omega) (by omega) hP.out hlt))
        go_wp2_with fail
        go_quiet (fail)
        go_wp2_with fail
        go_ret
        exact ⟨ret_i (by rw [hR.out]), below_drewN (below_drewN (Below.refl _ _) _) _⟩
      by_cases hgt : nth y m < nth x m
      · have hR : Hid (cmpN (val a) (val b) = 1) := Lib.hid (by rw [← hxv.out, ← hyv.out]; exact cmpN_gt (val_lt_of V2.out.2 (by omega) (by omega) hP.out.symm hgt))
        go_wp2_with fail
        go_quiet (fail)
        go_wp2_with fail
        go_quiet (fail)
        go_wp2_with fail
        go_ret
        exact ⟨ret_i (by rw [hR.out]), below_drewN (below_drewN (below_drewN (Below.refl _ _) _) _) _⟩
      have hN := Lib.hid (drop_eq_step (by omega) (by omega) hP.out (by omega))
      go_wp2_with fail
      go_quiet (fail)
      go_wp2_with fail
      go_quiet (fail)
      go_wp2_with fail
      go_roundw
      case rel => exact ⟨m, by omega, by go_num, ⟨_, by first | rfl | (rw [World.drewN_drewN, World.drewN_drewN])⟩, hN⟩
      case measure => simp [intOf]
    · obtain rfl : k = 0 := by omega
      have hR : Hid (cmpN (val a) (val b) = 0) := Lib.hid (by
        have := hP.out
        rw [List.drop_zero, List.drop_zero] at this
        exact cmpN_eq (by rw [← hxv.out, ← hyv.out, this]))
      go_wp2_with fail
      go_ret
      exact ⟨ret_i (by rw [hR.out]), below_drewN (Below.refl _ _) _⟩

/-- What Sub hands back. -/
def SubRet (a b : Nat) (e : Ending) (w' : World) : Prop :=
  if b ≤ a then ∃ v', e = .returned (.tuple #[v', .bool true]) ∧ NatAt w' v' (limbs (a - b)) else e = .returned (.tuple #[.slice none 0 0, .bool false])

set_option maxHeartbeats 2000000 in
theorem sub_any (va vb : Value) (a b : List Nat) (w : World) (ha : NatAt w va a) (hb : NatAt w vb b) (hla : a.length ≤ 1000000) (hlb : b.length ≤ 1000000) :
    Calls Tryz.prog 127 #[va, vb] w fun e w' => SubRet (val a) (val b) e w' ∧ Below w.heap.size w w' := by
  obtain ⟨x, hx⟩ : ∃ x, limbs (val a) = x := ⟨_, rfl⟩
  obtain ⟨y, hy⟩ : ∃ y, limbs (val b) = y := ⟨_, rfl⟩
  have hxl : x.length ≤ 1000000 := by rw [← hx]; exact Nat.le_trans (limbs_len_le _ _ (val_lt a ha.2)) hla
  have hyl : y.length ≤ 1000000 := by rw [← hy]; exact Nat.le_trans (limbs_len_le _ _ (val_lt b hb.2)) hlb
  have hxv : val x = val a := by rw [← hx, val_limbs]
  have hyv : val y = val b := by rw [← hy, val_limbs]
  have ca := trim_any va a w ha
  have cb := trim_any vb b w hb
  rw [hx] at ca
  rw [hy] at cb
  have CA := Lib.hid ca
  have CB := Lib.hid cb
  have HXL := Lib.hid hxl
  have HYL := Lib.hid hyl
  have HXV := Lib.hid hxv
  have HYV := Lib.hid hyv
  by_cases hge : val b ≤ val a
  · have hc : ¬ cmpN (val x) (val y) < 0 := by rw [hxv, hyv]; unfold cmpN; rw [if_neg (by omega)]; split <;> omega
    have hyx : y.length ≤ x.length := by
      rcases Nat.lt_or_ge x.length y.length with h | h
      · rw [← hx, ← hy] at h; have := len_lt h; omega
      · exact h
    have hR : Hid (SubRet (val a) (val b) = fun e w' => ∃ v', e = .returned (.tuple #[v', .bool true]) ∧ NatAt w' v' (limbs (val a - val b))) := Lib.hid (by funext e w'; unfold SubRet; rw [if_pos hge])
    have HGE := Lib.hid hge
    clear ha hb hla hlb hx hy hxv hyv ca cb hge
    go_enter Tryz.func127, Tryz.ntmps127
    go_wp2_with (first
      | (go_at_call 96; ((with_reducible refine CA.out.mono ?_); rintro e w1 ⟨v1, rfl, hv1, rfl⟩; obtain ⟨p1, c1, rfl⟩ := hv1.shape))
      | (go_at_call 96; ((with_reducible refine CB.out.mono ?_); rintro e w2 ⟨v2, rfl, hv2, rfl⟩; obtain ⟨p2, c2, rfl⟩ := hv2.shape))
      | (go_at_call 98; refine (cmp_any _ _ x y _ hv1 hv2 HXL.out HYL.out).mono ?_; rintro e w3 ⟨rfl, hb3⟩)
      | (at_make; go_must (refine make_any er49 rfl rfl rfl rfl (by omega) (by omega) (by omega) ?_); intro w4 hown4 hb4))
    rw [Int.toNat_natCast] at hown4
    have hown := OwnNat.made hown4
    have hb04 : Below w.heap.size w w4 := hb3.trans (hb4.mono hb3.size)
    have V1 := Lib.hid (hv1.keep hb3)
    have V2 := Lib.hid (hv2.keep hb3)
    clear hown4 hv1 hv2 CA CB
    go_loopw [7, 23] (fun c i wr => ∃ k cc : Nat, ∃ o : List Nat, k ≤ x.length ∧ cc ≤ 1 ∧ i = .int .i64 k ∧ c = .int .u64 cc ∧ OwnNat wr w3.heap.size w3.heap.size x.length x.length o ∧ Below w3.heap.size w3 wr ∧
        Hid (val (o.take k) + val (y.take k) = val (x.take k) + 4294967296 ^ k * cc)) (fun _ i _ => x.length - (intOf i).toNat)
    case atStart => exact ⟨0, 0, _, by omega, by omega, rfl, rfl, hown, hb4, Lib.hid (by simp [val])⟩
    case round =>
      obtain ⟨k, cc, o, hk, hcc, rfl, rfl, hO, hbel, hP⟩ := hrel
      by_cases hlt : k < x.length
      · have hx1 := V1.out.2.nth k
        have hy1 := V2.out.2.nth k
        have LA := Lib.hid (limb_any _ x k wr (V1.out.keep hbel))
        have LB := Lib.hid (limb_any _ y k wr (V2.out.keep hbel))
        have hcell := hO.cell (j := k) (by omega)
        have hfree := hO.free k
        have HO := Lib.hid hO
        clear hO
        have hsub1 : 0 ≤ 4294967296 + (nth x k : Int) - (nth y k : Int) := by omega
        have hsub2 : 0 ≤ 4294967296 + (nth x k : Int) - (nth y k : Int) - (cc : Int) := by omega
        have hsub3 : (4294967296 + (nth x k : Int) - (nth y k : Int) - (cc : Int)) / 4294967296 ≤ 1 := by omega
        have hsub4 : 0 ≤ (4294967296 + (nth x k : Int) - (nth y k : Int) - (cc : Int)) / 4294967296 := by omega
        go_wp2_with (first
          | (go_at_call 111; ((with_reducible refine LA.out.mono ?_); rintro e w5 ⟨rfl, rfl⟩))
          | (go_at_call 111; ((with_reducible refine LB.out.mono ?_); rintro e w6 ⟨rfl, rfl⟩)))
        obtain ⟨t, ht⟩ : ∃ t, t + nth y k + cc = 4294967296 + nth x k := ⟨4294967296 + nth x k - nth y k - cc, by omega⟩
        have e1 : (4294967296 + (nth x k : Int) - (nth y k : Int) - (cc : Int)) % 4294967296 = ((t % 4294967296 : Nat) : Int) := by omega
        have e2 : 1 - (4294967296 + (nth x k : Int) - (nth y k : Int) - (cc : Int)) / 4294967296 = ((1 - t / 4294967296 : Nat) : Int) := by omega
        have hput := HO.out.put k (t % 4294967296) (Nat.mod_lt _ (by omega))
        have hlo := HO.out.1
        go_roundw
        case rel =>
          rw [e1, e2]
          exact ⟨k + 1, 1 - t / 4294967296, o.set k (t % 4294967296), by omega, by omega, by go_num, rfl, hput.1, hbel.trans hput.2, Lib.hid (sub_step (by omega) ht hP.out (by omega))⟩
        case measure => simp [intOf]; omega
      · obtain rfl : k = x.length := by omega
        have hval : Hid (val o = val a - val b) := Lib.hid (by
          have h1 := hP.out
          rw [val_take_all (Nat.le_of_eq hO.1), val_take_all hyx, val_take_all (Nat.le_refl _), HXV.out, HYV.out] at h1
          have h2 := val_lt o hO.2.1
          rw [hO.1] at h2
          have h3 : cc = 0 := by
            rcases Nat.eq_zero_or_pos cc with h | h
            · exact h
            · obtain rfl : cc = 1 := by omega
              have := HGE.out
              omega
          rw [h3] at h1
          omega)
        have hlen : o.length ≤ 1000000000 := by rw [hO.1]; omega
        have HLEN := Lib.hid hlen
        have HO := Lib.hid hO
        clear hlen hO
        go_wp2_with (go_at_call 88; refine (norm_any _ _ _ HO.out.read HLEN.out).mono ?_; rw [hval.out]; rintro e w5 ⟨v5, rfl, hv5, hb5⟩)
        go_ret2
        rw [hR.out]
        exact ⟨⟨_, rfl, hv5⟩, (hb3.trans (hbel.mono hb3.size)).trans (hb5.mono (Nat.le_trans hb3.size hbel.size))⟩
  · have hc : cmpN (val x) (val y) < 0 := by rw [hxv, hyv, cmpN_lt (by omega)]; omega
    have hR : Hid (SubRet (val a) (val b) = fun e _ => e = .returned (.tuple #[.slice none 0 0, .bool false])) := Lib.hid (by funext e w'; unfold SubRet; rw [if_neg hge])
    clear ha hb hla hlb hx hy hxv hyv ca cb hge
    go_enter Tryz.func127, Tryz.ntmps127
    go_wp2_with (first
      | (go_at_call 96; ((with_reducible refine CA.out.mono ?_); rintro e w1 ⟨v1, rfl, hv1, rfl⟩))
      | (go_at_call 96; ((with_reducible refine CB.out.mono ?_); rintro e w2 ⟨v2, rfl, hv2, rfl⟩))
      | (go_at_call 98; refine (cmp_any _ _ x y _ hv1 hv2 HXL.out HYL.out).mono ?_; rintro e w3 ⟨rfl, hb3⟩))
    go_ret2
    rw [hR.out]
    exact ⟨rfl, hb3⟩

end Go.Proofs.YtbnhgmikegdppaaGreat

namespace Go.Proofs.YtbnhgmikegdppaaGreat
open Go.RowKit Go.Proofs.Kit Go.Proofs.Nums

theorem mul_lt32 {x y o c : Nat} (hx : x < 4294967296) (hy : y < 4294967296) (ho : o < 4294967296) (hc : c < 4294967296) : x * y + o + c < 18446744073709551616 := by
  have h1 : x * y ≤ 4294967295 * 4294967295 := Nat.mul_le_mul (by omega) (by omega)
  omega

theorem bel2' {w w1 w2 : World} (h1 : Below w.heap.size w w1) (h2 : Below w1.heap.size w1 w2) : Below w.heap.size w w2 := h1.trans (h2.mono h1.size)

set_option maxHeartbeats 4000000 in
theorem mul_any (va vb : Value) (a b : List Nat) (w : World) (ha : NatAt w va a) (hb : NatAt w vb b) (hla : a.length ≤ 1000000) (hlb : b.length ≤ 1000000) :
    Calls Tryz.prog 123 #[va, vb] w fun e w' => ∃ v', e = .returned v' ∧ NatAt w' v' (limbs (val a * val b)) ∧ Below w.heap.size w w' := by
  obtain ⟨x, hx⟩ : ∃ x, limbs (val a) = x := ⟨_, rfl⟩
  obtain ⟨y, hy⟩ : ∃ y, limbs (val b) = y := ⟨_, rfl⟩
  have hxl : x.length ≤ 1000000 := by rw [← hx]; exact Nat.le_trans (limbs_len_le _ _ (val_lt a ha.2)) hla
  have hyl : y.length ≤ 1000000 := by rw [← hy]; exact Nat.le_trans (limbs_len_le _ _ (val_lt b hb.2)) hlb
  have hxv : val x = val a := by rw [← hx, val_limbs]
  have hyv : val y = val b := by rw [← hy, val_limbs]
  have ca := trim_any va a w ha
  have cb := trim_any vb b w hb
  rw [hx] at ca
  rw [hy] at cb
  have CA := Lib.hid ca
  have CB := Lib.hid cb
  have HXV := Lib.hid hxv
  have HYV := Lib.hid hyv
  clear ha hb hla hlb hx hy hxv hyv ca cb
  go_enter Tryz.func123, Tryz.ntmps123
  go_wp2_with (first
    | (go_at_call 96; ((with_reducible refine CA.out.mono ?_); rintro e w1 ⟨v1, rfl, hv1, rfl⟩; obtain ⟨p1, c1, rfl⟩ := hv1.shape))
    | (go_at_call 96; ((with_reducible refine CB.out.mono ?_); rintro e w2 ⟨v2, rfl, hv2, rfl⟩; obtain ⟨p2, c2, rfl⟩ := hv2.shape))
    | (at_make; go_must (refine make_any er49 rfl rfl rfl rfl (by omega) (by omega) (by omega) ?_); intro w3 hown3 hb3))
  rw [show ((x.length : Int) + (y.length : Int)).toNat = x.length + y.length by omega] at hown3
  have hown := OwnNat.made hown3
  have V1 := Lib.hid hv1
  have V2 := Lib.hid hv2
  clear hv1 hv2 CA CB hown3
  go_loopw [24] (fun i wr => ∃ k : Nat, ∃ o : List Nat, k ≤ x.length ∧ i = .int .i64 k ∧ OwnNat wr w.heap.size w.heap.size (x.length + y.length) (x.length + y.length) o ∧ Below w.heap.size w wr ∧
      Hid (val o = val (x.take k) * val y)) (fun i _ => x.length - (intOf i).toNat)
  case atStart => exact ⟨0, _, by omega, rfl, hown, hb3, Lib.hid (by rw [val_zeros]; simp [val])⟩
  case round =>
    obtain ⟨k, o, hk, rfl, hO, hbel, hP⟩ := hrel
    obtain ⟨wo, rfl⟩ : ∃ wo : World, wo = wr := ⟨_, rfl⟩
    by_cases hlt : k < x.length
    · rcases (V1.out.keep hbel).cases with ⟨hx0, _⟩ | ⟨_, b1, o1, k1, hv1, hk1, hm1, hb1, hcell1⟩
      · rw [hx0] at hlt; simp at hlt
      simp only [Value.slice.injEq] at hv1
      obtain ⟨rfl, _, rfl⟩ := hv1
      have q1 := hcell1 k hlt
      have hxk := V1.out.2.nth k
      clear hcell1
      go_wp2_with fail
      have hz : nth o (k + y.length) = 0 := nth_zero (by
        rw [hP.out, Nat.pow_add]
        have h1 := val_take_lt x V1.out.2 k (by omega)
        have h2 := val_lt y V2.out.2
        exact Nat.mul_lt_mul_of_lt_of_le h1 (Nat.le_of_lt h2) (Nat.pow_pos (by omega)))
      have HZ := Lib.hid hz
      clear hz
      go_loopw [8, 31] (fun c j wr => ∃ q cc : Nat, ∃ o' : List Nat, q ≤ y.length ∧ cc < 4294967296 ∧ j = .int .i64 q ∧ c = .int .u64 cc ∧ OwnNat wr w.heap.size w.heap.size (x.length + y.length) (x.length + y.length) o' ∧ Below w.heap.size w wr ∧
          Hid (nth o' (k + y.length) = 0) ∧ Hid (val o' + 4294967296 ^ (k + q) * cc = val (x.take k) * val y + 4294967296 ^ k * (nth x k * val (y.take q)))) (fun _ j _ => y.length - (intOf j).toNat)
      case atStart => exact ⟨0, 0, o, by omega, by omega, rfl, rfl, hO, hbel, HZ, Lib.hid (by rw [hP.out]; simp [val])⟩
      case round =>
        obtain ⟨q, cc, o', hq, hcc, rfl, rfl, hO', hbel', hZ', hP'⟩ := hrel
        by_cases hltq : q < y.length
        · rcases (V2.out.keep hbel').cases with ⟨hy0, _⟩ | ⟨_, b2, o2, k2, hv2, hk2, hm2, hb2, hcell2⟩
          · rw [hy0] at hltq; simp at hltq
          simp only [Value.slice.injEq] at hv2
          obtain ⟨rfl, _, rfl⟩ := hv2
          have q2 := hcell2 q hltq
          have hyq := V2.out.2.nth q
          clear hcell2
          have hcell := hO'.cell (j := k + q) (by omega)
          have hfree := hO'.free (k + q)
          have hoq := hO'.2.1.nth (k + q)
          have hmul := mul_lt32 hxk hyq hoq hcc
          have HO := Lib.hid hO'
          obtain ⟨xy, hxy⟩ : ∃ xy : Nat, (nth x k : Int) * (nth y q : Int) = (xy : Int) := ⟨nth x k * nth y q, by rw [Int.natCast_mul]⟩
          have hxy' : nth x k * nth y q = xy := by exact_mod_cast hxy
          rw [hxy'] at hmul
          have HXY := Lib.hid hxy'
          clear hO' hxy'
          go_wp2_with fail
          obtain ⟨t, ht⟩ : ∃ t, t = xy + nth o' (k + q) + cc := ⟨_, rfl⟩
          have e1 : ((xy : Int) + (nth o' (k + q) : Int) + (cc : Int)) % 4294967296 = ((t % 4294967296 : Nat) : Int) := by omega
          have e2 : ((xy : Int) + (nth o' (k + q) : Int) + (cc : Int)) / 4294967296 = ((t / 4294967296 : Nat) : Int) := by omega
          have hput := HO.out.put (k + q) (t % 4294967296) (Nat.mod_lt _ (by omega))
          have hlo := HO.out.1
          go_roundw
          case rel =>
            rw [e1, e2]
            refine ⟨q + 1, t / 4294967296, o'.set (k + q) (t % 4294967296), by omega, by omega, by go_num, rfl, hput.1, hbel'.trans hput.2, Lib.hid (by rw [nth_set_ne (by omega)]; exact hZ'.out), Lib.hid ?_⟩
            exact mul_step (by omega) (by rw [HXY.out]; exact ht) hP'.out
          case measure => simp [intOf]; omega
        · obtain rfl : q = y.length := by omega
          have hcell := hO'.cell (j := k + y.length) (by omega)
          have hfree := hO'.free (k + y.length)
          have hput := hO'.put (k + y.length) cc hcc
          have hlo := hO'.1
          have HPUT := Lib.hid hput
          clear hput hO'
          go_wp2_with fail
          go_roundw
          case rel =>
            exact ⟨k + 1, o'.set (k + y.length) cc, by omega, by go_num, HPUT.out.1, hbel'.trans HPUT.out.2, Lib.hid (mul_end (by omega) hZ'.out hP'.out)⟩
          case measure => simp [intOf]; omega
    · obtain rfl : k = x.length := by omega
      have hval : Hid (val o = val a * val b) := Lib.hid (by rw [hP.out, List.take_length, HXV.out, HYV.out])
      have hlen : o.length ≤ 1000000000 := by rw [hO.1]; omega
      have HLEN := Lib.hid hlen
      have HO := Lib.hid hO
      clear hlen hO
      go_wp2_with (go_at_call 88; refine (norm_any _ _ _ HO.out.read HLEN.out).mono ?_; rw [hval.out]; rintro e w5 ⟨v5, rfl, hv5, hb5⟩)
      go_ret
      exact ⟨_, rfl, hv5, bel2' hbel hb5⟩

theorem str_of {s : ByteArray} {l : List UInt8} (h : s.data.toList = l) : s = ⟨l.toArray⟩ := by
  subst h; cases s; simp

theorem ret_s {s t : ByteArray} (h : s = t) : Ending.returned (.string s) = .returned (.string t) := by rw [h]

/-- Without the bytes c ahead. -/
def dropB (c : UInt8) (l : List UInt8) : List UInt8 := l.dropWhile (· == c)
theorem dropB_yes {c x : UInt8} {l : List UInt8} (h : x = c) : dropB c (x :: l) = dropB c l := by unfold dropB; rw [List.dropWhile_cons]; simp [h]
theorem dropB_no {c x : UInt8} {l : List UInt8} (h : x ≠ c) : dropB c (x :: l) = x :: l := by unfold dropB; rw [List.dropWhile_cons]; simp [h]

end Go.Proofs.YtbnhgmikegdppaaGreat

namespace Go.Proofs.YtbnhgmikegdppaaGreat
open Go.RowKit Go.Proofs.Kit Go.Proofs.Nums

set_option maxHeartbeats 1000000 in
theorem trim_at (v : Value) (l : List Nat) (w : World) (h : NatAt w v l) :
    Calls Tryz.prog 96 #[v] w fun e w' => ∃ v', e = .returned v' ∧ NatAt w v' (limbs (val l)) ∧ w = w' ∧ (v'.ownBlock = none ∨ v'.ownBlock = v.ownBlock) := by
  rcases h.cases with ⟨rfl, p, cap, rfl, _, _⟩ | ⟨h1, b, off, cap, rfl, hc, hm, hb, hcell⟩
  · clear h
    go_enter Tryz.func96, Tryz.ntmps96
    go_wp2_with fail
    refine wp_loop_rounds 1 ?_
    rw [rounds_succ]
    go_wp2_with fail
    go_ret
    exact ⟨_, rfl, NatAt.nil w, rfl, .inl rfl⟩
  · have H := Lib.hid h
    have HC := Lib.hid hcell
    clear h hcell
    go_enter Tryz.func96, Tryz.ntmps96
    go_wp2_with fail
    go_loop [3] (fun i => ∃ k : Nat, k ≤ l.length ∧ i = .int .i64 k ∧ Hid (val (l.drop k) = 0)) (fun i => (intOf i).toNat)
    case atStart => exact ⟨l.length, Nat.le_refl _, rfl, Lib.hid (by rw [List.drop_length]; rfl)⟩
    case round =>
      obtain ⟨k, hk, rfl, hP⟩ := hrel
      by_cases h0 : 0 < k
      · obtain ⟨m, rfl⟩ : ∃ m, k = m + 1 := ⟨k - 1, by omega⟩
        have hcm := HC.out m (by omega)
        cases hz : (((nth l m : Nat) : Int) == 0)
        · have hN : Hid (limbs (val l) = l.take (m + 1)) := Lib.hid (limbs_trim l H.out.2 (m+1) hP.out (norm_take hk (by simpa using hz)))
          go_wp2_with fail
          go_ret
          refine ⟨_, rfl, ⟨?_, limbs_lim _⟩, rfl, .inr rfl⟩
          rw [hN.out, List.map_take]
          exact RowAt.take H.out.1 (m+1) (by rw [List.length_map]; exact hk)
        · have HZ : Hid (val (l.drop m) = 0) := Lib.hid (val_drop_step (by omega) (by simpa using hz) hP.out)
          go_wp2_with fail
          go_round
          case rel => exact ⟨m, by omega, by go_num, HZ⟩
          case measure => simp [intOf]
      · obtain rfl : k = 0 := by omega
        have hN : Hid (limbs (val l) = []) := Lib.hid (by have := hP.out; rw [List.drop_zero] at this; rw [this]; rfl)
        clear h0
        go_wp2_with fail
        go_ret
        exact ⟨_, rfl, by rw [hN.out]; exact NatAt.nil w, rfl, .inl rfl⟩

theorem NatAtSame {w w' : World} {v : Value} {l : List Nat} (h : NatAt w v l) (hh : ∀ b, v.ownBlock = some b → w'.heap[b]? = w.heap[b]?) : NatAt w' v l := ⟨RowAt.same h.1 hh, h.2⟩

end Go.Proofs.YtbnhgmikegdppaaGreat

namespace Go.Proofs.YtbnhgmikegdppaaGreat
open Go.RowKit Go.Proofs.Kit Go.Proofs.Nums

theorem or_shift {r x : Nat} (hr : r < 4294967296) (hx : x < 4294967296) : Go.bits .or .u64 ((r : Int) * 4294967296) (x : Int) = ((r * 4294967296 + x : Nat) : Int) := by
  have h := Nat.two_pow_add_eq_or_of_lt (i := 32) (b := x) (by omega) r
  rw [show ((r : Int) * 4294967296) = ((r * 4294967296 : Nat) : Int) by omega, Go.bits_or_u64_nat _ _ (by omega) (by omega)]
  rw [show r * 4294967296 = 2 ^ 32 * r by omega, h]

set_option maxHeartbeats 4000000 in
theorem sdiv_any (v : Value) (a : List Nat) (d : Nat) (w : World) (ha : NatAt w v a) (hla : a.length ≤ 1000000) (hd0 : 0 < d) (hd : d < 4294967296) :
    Calls Tryz.prog 100 #[v, .int .u64 d] w fun e w' => ∃ v', e = .returned (.tuple #[v', .int .u64 ((val a % d : Nat) : Int)]) ∧ (∃ q, NatAt w' v' q ∧ val q = val a / d ∧ q.length = a.length ∧ v'.ownBlock = some w.heap.size ∧ w.heap.size < w'.heap.size) ∧ Below w.heap.size w w' := by
  obtain ⟨p1, c1, rfl⟩ := ha.shape
  have HA := Lib.hid ha
  clear ha
  have hnz : ((d : Int) == 0) = false := by rw [beq_eq_false_iff_ne]; omega
  go_enter Tryz.func100, Tryz.ntmps100
  go_wp2_with (at_make; go_must (refine make_any er49 rfl rfl rfl rfl (by omega) (by omega) (by omega) ?_); intro w3 hown3 hb3)
  have hown := OwnNat.made hown3
  clear hown3
  go_loopw [7, 8] (fun rv i wr => ∃ k r : Nat, ∃ o : List Nat, k ≤ a.length ∧ r < d ∧ i = .int .i64 ((k : Int) - 1) ∧ rv = .int .u64 r ∧ OwnNat wr w.heap.size w.heap.size a.length a.length o ∧ Below w.heap.size w wr ∧
      Hid (val (a.drop k) = val (o.drop k) * d + r)) (fun _ i _ => (intOf i + 1).toNat)
  case atStart => exact ⟨a.length, 0, _, by omega, hd0, by go_num, rfl, hown, hb3, Lib.hid (by rw [List.drop_length, List.drop_of_length_le (by simp)]; simp [val])⟩
  case round =>
    obtain ⟨k, r, o, hk, hr, rfl, rfl, hO, hbel, hP⟩ := hrel
    by_cases h0 : 0 < k
    · obtain ⟨m, rfl⟩ : ∃ m, k = m + 1 := ⟨k - 1, by omega⟩
      rcases (HA.out.keep hbel).cases with ⟨hx0, _⟩ | ⟨_, b1, o1, k1, hv1, hk1, hm1, hbb, hcell1⟩
      · rw [hx0] at hk; simp at hk
      simp only [Value.slice.injEq] at hv1
      obtain ⟨rfl, _, rfl⟩ := hv1
      have q1 := hcell1 m (by omega)
      have hxm := HA.out.2.nth m
      clear hcell1
      have hlen := hO.1
      obtain ⟨l1, l2, l3⟩ := sdiv_lt hr hxm hd
      have hST := Lib.hid (sdiv_step (o := o) (a := a) (by omega) (by omega) hP.out)
      have hcell := hO.cell (j := m) (by omega)
      have hfree := hO.free m
      have hput := hO.put m _ l1
      have HO := Lib.hid hO
      have hor := or_shift (r := r) (by omega) hxm
      rw [show ((m + 1 : Nat) : Int) - 1 = (m : Int) by omega]
      clear hO
      go_wp2_with fail
      have e0 : ((r : Int) * 4294967296 + (nth a m : Int)) = ((r * 4294967296 + nth a m : Nat) : Int) := by omega
      have e1 : ((r : Int) * 4294967296 + (nth a m : Int)) % (d : Int) = (((r * 4294967296 + nth a m) % d : Nat) : Int) := by rw [e0, Int.natCast_emod]
      have e2 : ((r : Int) * 4294967296 + (nth a m : Int)) / (d : Int) % 4294967296 = (((r * 4294967296 + nth a m) / d : Nat) : Int) := by
        rw [e0, ← Int.natCast_ediv]
        generalize (r * 4294967296 + nth a m) / d = y at l1 ⊢
        omega
      go_roundw
      case rel =>
        rw [e1, e2]
        exact ⟨m, _, _, by omega, l2, by go_num, rfl, hput.1, hbel.trans hput.2, hST⟩
      case measure => simp [intOf] <;> omega
    · obtain rfl : k = 0 := by omega
      have h1 : Hid (val o = val a / d ∧ val a % d = r) := Lib.hid (by
        have := hP.out
        rw [List.drop_zero, List.drop_zero] at this
        rw [this, Nat.mul_comm, Nat.mul_add_div (by omega), Nat.mul_add_mod]
        exact ⟨by rw [Nat.div_eq_of_lt hr]; rfl, Nat.mod_eq_of_lt hr⟩)
      have HO := Lib.hid hO
      clear hO
      go_wp2_with fail
      go_ret2
      exact ⟨_, by rw [h1.out.2]; rfl, ⟨o, HO.out.read, h1.out.1, HO.out.1, rfl, HO.out.lt.2⟩, hbel⟩

end Go.Proofs.YtbnhgmikegdppaaGreat

namespace Go.Proofs.YtbnhgmikegdppaaGreat
open Go.RowKit Go.Proofs.Kit Go.Proofs.Nums

/-- v reads as the bitsN l. -/
def BitAt (w : World) (v : Value) (l : List Bool) : Prop := RowAt w v (l.map Value.bool)

theorem BitAt.keep {w w' : World} {v : Value} {l : List Bool} (h : BitAt w v l) (hb : Below w.heap.size w w') : BitAt w' v l := RowAt.keep h hb
theorem BitAt.on {w w' : World} {o : Obj} {v : Value} {l : List Bool} (h : BitAt w v l) (hb : Below (w.alloc o).heap.size (w.alloc o) w') : BitAt w' v l := RowAt.on h hb
theorem BitAt.nil (w : World) : BitAt w (.slice none 0 0) [] := RowAt.nil w
theorem BitAt.shape {w : World} {v : Value} {l : List Bool} (h : BitAt w v l) : ∃ p c, v = .slice p l.length c := by
  obtain ⟨p, c, hv, _⟩ := h
  rw [List.length_map] at hv
  exact ⟨p, c, hv⟩
theorem BitAt.cases {w : World} {v : Value} {l : List Bool} (h : BitAt w v l) :
    (l = [] ∧ ∃ p cap, v = .slice p 0 cap ∧ cap ≤ 9223372036854775807 ∧ (p = none → cap = 0)) ∨
    (0 < l.length ∧ ∃ b off cap, v = .slice (some ⟨b, off, none⟩) l.length cap ∧ l.length ≤ cap ∧ cap ≤ 9223372036854775807 ∧ b < w.heap.size ∧ ∀ i, i < l.length → w.cell? ⟨b, off + i, none⟩ = some (.bool (bnth l i))) := by
  rcases RowAt.cases h with ⟨h1, h2⟩ | ⟨h1, b, off, cap, hv, hc, hm, hb, hcell⟩
  · left; exact ⟨by simpa using h1, h2⟩
  · right
    rw [List.length_map] at h1 hv hc
    refine ⟨h1, b, off, cap, hv, hc, hm, hb, fun i hi => ?_⟩
    refine hcell i _ ?_
    rw [List.getElem?_map, List.getElem?_eq_getElem hi, bnth_lt hi]
    rfl

theorem er123 : ElemRow Tryz.prog 123 4 (.bool false) 1 1 := ⟨Tryz.underlying123, by kernel_rfl, rfl, by decide⟩

theorem bool_one (l : List Bool) : ∀ u ∈ l.map Value.bool, u.oneCell' = true := by
  intro u hu
  obtain ⟨_, _, rfl⟩ := List.mem_map.1 hu
  rfl

theorem bit_cells {w : World} {b off : Nat} {l : List Bool} (hcell : ∀ i, i < l.length → w.cell? ⟨b, off + i, none⟩ = some (.bool (bnth l i))) (k : Nat) :
    ∀ j u, ((l.take k).map Value.bool)[j]? = some u → w.cell? ((⟨b, off, none⟩ : Addr).add j) = some u := by
  intro j u hj
  rw [Addr.add_lit]
  rw [List.getElem?_map] at hj
  cases hlj : (l.take k)[j]? with
  | none => rw [hlj] at hj; simp at hj
  | some x =>
    rw [List.getElem?_take] at hlj
    split at hlj
    · have hjl := (List.getElem?_eq_some_iff.1 hlj).1
      rw [hcell j hjl, bnth_lt hjl, (List.getElem?_eq_some_iff.1 hlj).2]
      rw [List.getElem?_take, if_pos (by assumption), hlj] at hj
      simpa using hj
    · simp at hlj

set_option maxHeartbeats 1000000 in
theorem rtrim_any (v : Value) (l : List Bool) (w : World) (h : BitAt w v l) (hl : l.length ≤ 1000000) :
    Calls Tryz.prog 120 #[v] w fun e w' => ∃ v', e = .returned v' ∧ BitAt w' v' (bitsN (bval l)) ∧ Below w.heap.size w w' := by
  rcases h.cases with ⟨rfl, p, cap, rfl, _, _⟩ | ⟨h1, b, off, cap, rfl, hc, hm, hb, hcell⟩
  · clear h hl
    cases p with
    | none =>
      go_enter Tryz.func120, Tryz.ntmps120
      go_wp2_with fail
      refine wp_loop_rounds 1 ?_
      rw [rounds_succ]
      go_wp2_with (at_builtin; refine append_nil er123 (base := w.heap.size) (n := 0) (xs := []) (by rfl) (by rfl) (World.ownsRow_nil _ _ _ _) (by rfl) (by rfl) ?_)
      go_ret
      exact ⟨_, rfl, BitAt.nil w, Below.refl _ _⟩
    | some q =>
      go_enter Tryz.func120, Tryz.ntmps120
      go_wp2_with fail
      refine wp_loop_rounds 1 ?_
      rw [rounds_succ]
      go_wp2_with (at_builtin; (refine append_row er123 (base := w.heap.size) (n := 0) (xs := []) (news := []) (by rfl) (by rfl) (World.ownsRow_nil _ _ _ _) (by rfl) (by rfl) (by rfl) (fun j u h => by simp at h) (fun u h => by simp at h) (by omega) (by omega) (Nat.le_refl _) ?_); intro v' w1 hown1 _ hb1)
      go_ret
      exact ⟨_, rfl, RowAt.owned hown1, hb1⟩
  · have H := Lib.hid h
    have HC := Lib.hid hcell
    clear h hcell
    go_enter Tryz.func120, Tryz.ntmps120
    go_wp2_with fail
    go_loop [3] (fun i => ∃ k : Nat, k ≤ l.length ∧ i = .int .i64 k ∧ Hid (bval (l.drop k) = 0)) (fun i => (intOf i).toNat)
    case atStart => exact ⟨l.length, Nat.le_refl _, rfl, Lib.hid (by rw [List.drop_length]; rfl)⟩
    case round =>
      obtain ⟨k, hk, rfl, hP⟩ := hrel
      by_cases h0 : 0 < k
      · obtain ⟨m, rfl⟩ : ∃ m, k = m + 1 := ⟨k - 1, by omega⟩
        have hcm := HC.out m (by omega)
        cases hz : bnth l m
        · have HZ : Hid (bval (l.drop m) = 0) := Lib.hid (bval_drop_step (by omega) hz hP.out)
          go_wp2_with fail
          go_round
          case rel => exact ⟨m, by omega, by go_num, HZ⟩
          case measure => simp [intOf]
        · have hN : Hid (bitsN (bval l) = l.take (m + 1)) := Lib.hid (bits_trim l (m+1) hP.out (bnorm_take hk hz))
          go_wp2_with (at_builtin; (refine append_row er123 (base := w.heap.size) (n := 0) (xs := []) (news := (l.take (m + 1)).map Value.bool) (by rfl) (by rfl) (World.ownsRow_nil _ _ _ _) (by rfl) (by rfl) (by rw [List.length_map, List.length_take]; omega) (bit_cells HC.out (m + 1)) (bool_one _) (by omega) (by omega) (Nat.le_refl _) ?_); intro v' w1 hown1 _ hb1)
          go_ret
          exact ⟨_, rfl, by rw [hN.out]; exact RowAt.owned hown1, hb1⟩
      · obtain rfl : k = 0 := by omega
        have hN : Hid (bitsN (bval l) = []) := Lib.hid (by have := hP.out; rw [List.drop_zero] at this; rw [this]; rfl)
        clear h0
        go_wp2_with (at_builtin; (refine append_row er123 (base := w.heap.size) (n := 0) (xs := []) (news := []) (by rfl) (by rfl) (World.ownsRow_nil _ _ _ _) (by rfl) (by rfl) (by rfl) (fun j u h => by simp at h) (fun u h => by simp at h) (by omega) (by omega) (Nat.le_refl _) ?_); intro v' w1 hown1 _ hb1)
        go_ret
        exact ⟨_, rfl, by rw [hN.out]; exact RowAt.owned hown1, hb1⟩

end Go.Proofs.YtbnhgmikegdppaaGreat

namespace Go.Proofs.YtbnhgmikegdppaaGreat
open Go.RowKit Go.Proofs.Kit Go.Proofs.Nums

theorem ret_b {a b : Bool} (h : a = b) : Ending.returned (.bool a) = .returned (.bool b) := by rw [h]

set_option maxHeartbeats 1000000 in
theorem at_any (v : Value) (l : List Bool) (i : Nat) (w : World) (h : BitAt w v l) :
    Calls Tryz.prog 125 #[v, .int .i64 i] w fun e w' => e = .returned (.bool (bnth l i)) ∧ w = w' := by
  rcases h.cases with ⟨rfl, p, cap, rfl, _, _⟩ | ⟨h1, b, off, cap, rfl, hc, hm, hb, hcell⟩
  · clear h
    go_enter Tryz.func125, Tryz.ntmps125
    go_wp2_with fail
    go_ret
    exact ⟨rfl, rfl⟩
  · clear h
    by_cases hi : i < l.length
    · have hci := hcell i hi
      clear hcell
      go_enter Tryz.func125, Tryz.ntmps125
      go_wp2_with fail
      go_ret
      exact ⟨rfl, rfl⟩
    · have h0 : Hid (bnth l i = false) := Lib.hid (bnth_ge (by omega))
      clear hcell
      go_enter Tryz.func125, Tryz.ntmps125
      go_wp2_with fail
      go_ret
      exact ⟨by rw [h0.out]; rfl, rfl⟩

set_option maxHeartbeats 4000000 in
theorem radd_any (va vb : Value) (a b : List Bool) (w : World) (ha : BitAt w va a) (hb : BitAt w vb b) (hla : a.length ≤ 100000) (hlb : b.length ≤ 100000) :
    Calls Tryz.prog 114 #[va, vb] w fun e w' => ∃ v', e = .returned v' ∧ BitAt w' v' (bitsN (bval a + bval b)) ∧ Below w.heap.size w w' := by
  obtain ⟨p1, c1, rfl⟩ := ha.shape
  obtain ⟨p2, c2, rfl⟩ := hb.shape
  obtain ⟨M, hM1, hM2, hM3⟩ : ∃ M, a.length ≤ M ∧ b.length ≤ M ∧ (M ≤ a.length ∨ M ≤ b.length) := ⟨max a.length b.length, by omega, by omega, by omega⟩
  have HA := Lib.hid ha
  have HB := Lib.hid hb
  clear ha hb
  by_cases hxy : a.length < b.length
  all_goals
    go_enter Tryz.func114, Tryz.ntmps114
    go_wp2_with fail
    go_loopw [5, 6, 7] (fun v c i wr => ∃ k : Nat, ∃ cb : Bool, ∃ o : List Bool, k ≤ M + 1 ∧ o.length = k ∧ i = .int .i64 k ∧ c = .bool cb ∧ wr.ownsRow w.heap.size 4 1 v k (o.map Value.bool) ∧ Below w.heap.size w wr ∧
        Hid (bval o + 2 ^ k * bN cb = bval (a.take k) + bval (b.take k))) (fun _ _ i _ => M + 1 - (intOf i).toNat)
    case atStart => exact ⟨0, false, [], by omega, rfl, rfl, rfl, World.ownsRow_nil _ _ _ _, Below.refl _ _, Lib.hid (by simp [bval, bN])⟩
    case round =>
      obtain ⟨k, cb, o, hk, hol, rfl, rfl, hown, hbel, hP⟩ := hrel
      have HOL := Lib.hid hol
      clear hol
      by_cases hlt : k ≤ M
      · have LA := Lib.hid (at_any _ a k wr (HA.out.keep hbel))
        have LB := Lib.hid (at_any _ b k wr (HB.out.keep hbel))
        have hst := badd_step (a := a) (b := b) HOL.out hP.out
        have HST := Lib.hid hst
        clear hst
        cases hx : bnth a k <;> cases hy : bnth b k <;> cases cb
        all_goals
          go_wp2_with (first
            | (go_at_call 125; ((with_reducible refine LA.out.mono ?_); rintro e w4 ⟨rfl, rfl⟩))
            | (go_at_call 125; ((with_reducible refine LB.out.mono ?_); rintro e w5 ⟨rfl, rfl⟩))
            | (at_builtin; go_must (refine append_one er123 rfl rfl hown rfl rfl rfl (by simp [Value.oneCell']) (by omega) (by omega) hbel.size ?_); intro v' w1 hown1 _ hb1 hne1))
          go_roundw
          case rel =>
            refine ⟨k + 1, _, o ++ [_], by omega, by rw [List.length_append, HOL.out]; rfl, by go_num, rfl, by rw [List.map_append]; exact hown1, hbel.trans hb1, Lib.hid ?_⟩
            have := HST.out
            rw [hx, hy] at this
            exact this
          case measure => simp [intOf]; omega
      · obtain rfl : k = M + 1 := by omega
        have hval : Hid (bval o = bval a + bval b) := Lib.hid (by
          have h1 := hP.out
          rw [bval_take_all (l := a) (by omega), bval_take_all (l := b) (by omega)] at h1
          have h2 := bval_lt a
          have h3 := bval_lt b
          have h4 : 2 ^ a.length ≤ 2 ^ M := Nat.pow_le_pow_right (by omega) hM1
          have h5 : 2 ^ b.length ≤ 2 ^ M := Nat.pow_le_pow_right (by omega) hM2
          have h6 : 2 ^ (M + 1) = 2 * 2 ^ M := by rw [Nat.pow_succ]; omega
          cases cb
          · simp [bN] at h1; exact h1
          · simp [bN] at h1; omega)
        have HBT : Hid (BitAt wr u5 o) := Lib.hid (RowAt.owned hown)
        have hol2 : o.length ≤ 1000000 := by rw [HOL.out]; omega
        have HL := Lib.hid hol2
        clear hown hol2
        go_wp2_with (go_at_call 120; refine (rtrim_any _ _ _ HBT.out HL.out).mono ?_; rw [hval.out]; rintro e w4 ⟨v4, rfl, hv4, hb4⟩)
        go_ret
        exact ⟨_, rfl, hv4, bel2' hbel hb4⟩

set_option maxHeartbeats 4000000 in
theorem rsub_any (va vb : Value) (a b : List Bool) (w : World) (ha : BitAt w va a) (hb : BitAt w vb b) (hla : a.length ≤ 100000) (hge : bval b ≤ bval a) (hba : bval b = bval (b.take a.length)) :
    Calls Tryz.prog 116 #[va, vb] w fun e w' => ∃ v', e = .returned v' ∧ BitAt w' v' (bitsN (bval a - bval b)) ∧ Below w.heap.size w w' := by
  obtain ⟨p1, c1, rfl⟩ := ha.shape
  obtain ⟨p2, c2, rfl⟩ := hb.shape
  have HA := Lib.hid ha
  have HB := Lib.hid hb
  have HGE := Lib.hid hge
  have HBA := Lib.hid hba
  clear ha hb hge hba
  go_enter Tryz.func116, Tryz.ntmps116
  go_wp2_with fail
  go_loopw [5, 6, 7] (fun v c i wr => ∃ k : Nat, ∃ cb : Bool, ∃ o : List Bool, k ≤ a.length ∧ o.length = k ∧ i = .int .i64 k ∧ c = .bool cb ∧ wr.ownsRow w.heap.size 4 1 v k (o.map Value.bool) ∧ Below w.heap.size w wr ∧
      Hid (bval o + bval (b.take k) = bval (a.take k) + 2 ^ k * bN cb)) (fun _ _ i _ => a.length - (intOf i).toNat)
  case atStart => exact ⟨0, false, [], by omega, rfl, rfl, rfl, World.ownsRow_nil _ _ _ _, Below.refl _ _, Lib.hid (by simp [bval, bN])⟩
  case round =>
    obtain ⟨k, cb, o, hk, hol, rfl, rfl, hown, hbel, hP⟩ := hrel
    have HOL := Lib.hid hol
    clear hol
    by_cases hlt : k < a.length
    · have LA := Lib.hid (at_any _ a k wr (HA.out.keep hbel))
      have LB := Lib.hid (at_any _ b k wr (HB.out.keep hbel))
      have hst := bsub_step (a := a) (b := b) HOL.out hP.out
      have HST := Lib.hid hst
      clear hst
      cases hx : bnth a k <;> cases hy : bnth b k <;> cases cb
      all_goals
        go_wp2_with (first
          | (go_at_call 125; ((with_reducible refine LA.out.mono ?_); rintro e w4 ⟨rfl, rfl⟩))
          | (go_at_call 125; ((with_reducible refine LB.out.mono ?_); rintro e w5 ⟨rfl, rfl⟩))
          | (at_builtin; go_must (refine append_one er123 rfl rfl hown rfl rfl rfl (by simp [Value.oneCell']) (by omega) (by omega) hbel.size ?_); intro v' w1 hown1 _ hb1 hne1))
        go_roundw
        case rel =>
          refine ⟨k + 1, _, o ++ [_], by omega, by rw [List.length_append, HOL.out]; rfl, by go_num, rfl, by rw [List.map_append]; exact hown1, hbel.trans hb1, Lib.hid ?_⟩
          have := HST.out
          rw [hx, hy] at this
          exact this
        case measure => simp [intOf]; omega
    · obtain rfl : k = a.length := by omega
      have hval : Hid (bval o = bval a - bval b) := Lib.hid (by
        have h1 := hP.out
        have h2 := HGE.out
        rw [bval_take_all (l := a) (by omega), ← HBA.out] at h1
        have h3 := bval_lt o
        rw [HOL.out] at h3
        cases cb
        · simp [bN] at h1; omega
        · simp [bN] at h1; omega)
      have HBT : Hid (BitAt wr u5 o) := Lib.hid (RowAt.owned hown)
      have hol2 : o.length ≤ 1000000 := by rw [HOL.out]; omega
      have HL := Lib.hid hol2
      clear hown hol2
      go_wp2_with (go_at_call 120; refine (rtrim_any _ _ _ HBT.out HL.out).mono ?_; rw [hval.out]; rintro e w4 ⟨v4, rfl, hv4, hb4⟩)
      go_ret
      exact ⟨_, rfl, hv4, bel2' hbel hb4⟩

end Go.Proofs.YtbnhgmikegdppaaGreat

namespace Go.Proofs.YtbnhgmikegdppaaGreat
open Go.RowKit Go.Proofs.Kit Go.Proofs.Nums

set_option maxHeartbeats 4000000 in
theorem rcmp_any (va vb : Value) (a b : List Bool) (w : World) (ha : BitAt w va a) (hb : BitAt w vb b) (hla : a.length ≤ 100000) (hlb : b.length ≤ 100000) :
    Calls Tryz.prog 115 #[va, vb] w fun e w' => e = .returned (.int .i64 (cmpN (bval a) (bval b))) ∧ Below w.heap.size w w' := by
  obtain ⟨p1, c1, rfl⟩ := ha.shape
  obtain ⟨p2, c2, rfl⟩ := hb.shape
  obtain ⟨M, hM1, hM2, hM3⟩ : ∃ M, a.length ≤ M ∧ b.length ≤ M ∧ (M ≤ a.length ∨ M ≤ b.length) := ⟨max a.length b.length, by omega, by omega, by omega⟩
  have HA := Lib.hid ha
  have HB := Lib.hid hb
  clear ha hb
  have h0 : Hid (∀ j, M ≤ j → bnth a j = bnth b j) := Lib.hid (fun j hj => by rw [bnth_ge (by omega), bnth_ge (by omega)])
  by_cases hxy : a.length < b.length
  all_goals
    go_enter Tryz.func115, Tryz.ntmps115
    go_wp2_with fail
    go_loopw [5] (fun i wr => ∃ k : Nat, k ≤ M ∧ i = .int .i64 ((k : Int) - 1) ∧ (∃ n, wr = w.drewN n) ∧ Hid (∀ j, k ≤ j → bnth a j = bnth b j)) (fun i _ => (intOf i + 1).toNat)
    case atStart => exact ⟨M, by omega, by go_num, ⟨0, rfl⟩, h0⟩
    case round =>
      obtain ⟨k, hk, rfl, ⟨n, rfl⟩, hP⟩ := hrel
      by_cases h0 : 0 < k
      · obtain ⟨m, rfl⟩ : ∃ m, k = m + 1 := ⟨k - 1, by omega⟩
        have LA := Lib.hid (at_any _ a m (w.drewN n) (HA.out.keep (below_drewN (Below.refl _ _) n)))
        have LB := Lib.hid (at_any _ b m (w.drewN n) (HB.out.keep (below_drewN (Below.refl _ _) n)))
        rw [show ((m + 1 : Nat) : Int) - 1 = (m : Int) by omega]
        cases hx : bnth a m <;> cases hy : bnth b m
        all_goals
          go_wp2_with (first
            | (go_at_call 125; ((with_reducible refine LA.out.mono ?_); rintro e w4 ⟨rfl, rfl⟩))
            | (go_at_call 125; ((with_reducible refine LB.out.mono ?_); rintro e w5 ⟨rfl, rfl⟩)))
        · go_roundw
          case rel =>
            refine ⟨m, by omega, by go_num, ⟨n, rfl⟩, Lib.hid fun j hj => ?_⟩
            by_cases hjm : j = m
            · subst hjm; rw [hx, hy]
            · exact hP.out j (by omega)
          case measure => simp [intOf] <;> omega
        · have hR : Hid (cmpN (bval a) (bval b) = -1) := Lib.hid (cmpN_lt (bcmp_lt (fun j hj => hP.out j (by omega)) hx hy))
          go_ret
          exact ⟨ret_i (by rw [hR.out]), below_drewN (Below.refl _ _) _⟩
        · have hR : Hid (cmpN (bval a) (bval b) = 1) := Lib.hid (cmpN_gt (bcmp_lt (fun j hj => (hP.out j (by omega)).symm) hy hx))
          go_ret
          exact ⟨ret_i (by rw [hR.out]), below_drewN (Below.refl _ _) _⟩
        · go_roundw
          case rel =>
            refine ⟨m, by omega, by go_num, ⟨n, rfl⟩, Lib.hid fun j hj => ?_⟩
            by_cases hjm : j = m
            · subst hjm; rw [hx, hy]
            · exact hP.out j (by omega)
          case measure => simp [intOf] <;> omega
      · obtain rfl : k = 0 := by omega
        have hR : Hid (cmpN (bval a) (bval b) = 0) := Lib.hid (cmpN_eq (bcmp_eq fun j => hP.out j (by omega)))
        go_wp2_with fail
        go_ret
        exact ⟨ret_i (by rw [hR.out]), below_drewN (Below.refl _ _) _⟩

end Go.Proofs.YtbnhgmikegdppaaGreat

namespace Go.Proofs.YtbnhgmikegdppaaGreat
open Go.RowKit Go.Proofs.Kit Go.Proofs.Nums

theorem or_u32 (a b : Nat) (ha : a < 4294967296) (hb : b < 4294967296) : Go.bits .or .u32 (a : Int) (b : Int) = ((a ||| b : Nat) : Int) := by
  have hx : a ||| b < 2 ^ 32 := Nat.or_lt_two_pow (by omega) (by omega)
  have h1 : (BitVec.ofInt 32 (a : Int)).toNat = a := by
    rw [BitVec.ofInt_natCast, BitVec.toNat_ofNat]; exact Nat.mod_eq_of_lt (by omega)
  have h2 : (BitVec.ofInt 32 (b : Int)).toNat = b := by
    rw [BitVec.ofInt_natCast, BitVec.toNat_ofNat]; exact Nat.mod_eq_of_lt (by omega)
  show IntKind.u32.wrap ((BitVec.ofInt 32 (a : Int) ||| BitVec.ofInt 32 (b : Int)).toNat : Int) = _
  rw [BitVec.toNat_or, h1, h2, IntKind.wrap_u32]
  omega

theorem and1_u32 (a : Nat) (ha : a < 4294967296) : Go.bits .and .u32 (a : Int) 1 = ((a % 2 : Nat) : Int) := by
  have h := bits_mask .u32 32 (by decide) (fun n h0 h1 => by rw [IntKind.wrap_u32]; omega) 1 (by decide) (a : Int) (by omega) (by omega)
  have e : ((2 : Int) ^ 1 - 1) = 1 := by decide
  rw [e] at h
  rw [h]
  omega

theorem bit_of (x q : Nat) (hx : x < 4294967296) : bN (Go.bits BinOp.and IntKind.u32 ((x : Int) / 2 ^ q) 1 == 1) = x / 2 ^ q % 2 := by
  have e : ((x : Int) / 2 ^ q) = ((x / 2 ^ q : Nat) : Int) := by rw [Int.natCast_ediv, Int.natCast_pow]; rfl
  have hle : x / 2 ^ q ≤ x := Nat.div_le_self _ _
  rw [e, and1_u32 _ (by omega)]
  have : x / 2 ^ q % 2 < 2 := Nat.mod_lt _ (by omega)
  generalize x / 2 ^ q % 2 = y at this
  match y, this with
  | 0, _ => rfl
  | 1, _ => rfl

end Go.Proofs.YtbnhgmikegdppaaGreat

namespace Go.Proofs.YtbnhgmikegdppaaGreat
open Go.RowKit Go.Proofs.Kit Go.Proofs.Nums

set_option maxHeartbeats 4000000 in
theorem from_any (v : Value) (a : List Nat) (w : World) (ha : NatAt w v a) (hla : a.length ≤ 1000) :
    Calls Tryz.prog 109 #[v] w fun e w' => ∃ v', e = .returned v' ∧ BitAt w' v' (bitsN (val a)) ∧ Below w.heap.size w w' := by
  obtain ⟨p1, c1, rfl⟩ := ha.shape
  have HA := Lib.hid ha
  clear ha
  go_enter Tryz.func109, Tryz.ntmps109
  go_wp2_with fail
  go_loopw [3, 4] (fun v i wr => ∃ k : Nat, ∃ o : List Bool, k ≤ a.length ∧ o.length = 32 * k ∧ i = .int .i64 k ∧ wr.ownsRow w.heap.size 4 1 v (32 * k) (o.map Value.bool) ∧ Below w.heap.size w wr ∧
      Hid (bval o = val (a.take k) + 2 ^ (32 * k) * (nth a k % 2 ^ 0))) (fun _ i _ => a.length - (intOf i).toNat)
  case atStart => exact ⟨0, [], by omega, rfl, rfl, World.ownsRow_nil _ _ _ _, Below.refl _ _, Lib.hid (by simp [bval, val, Nat.mod_one])⟩
  case round =>
    obtain ⟨k, o, hk, hol, rfl, hown, hbel, hP⟩ := hrel
    have HOL := Lib.hid hol
    clear hol
    by_cases hlt : k < a.length
    · have hxk0 := HA.out.2.nth k
      go_wp2_with fail
      go_loopw [3, 5] (fun v i wr => ∃ q : Nat, ∃ o : List Bool, q ≤ 32 ∧ Hid (o.length = 32 * k + q) ∧ i = .int .u64 q ∧ wr.ownsRow w.heap.size 4 1 v (32 * k + q) (o.map Value.bool) ∧ Below w.heap.size w wr ∧
          Hid (bval o = val (a.take k) + 2 ^ (32 * k) * (nth a k % 2 ^ q))) (fun _ i _ => 32 - (intOf i).toNat)
      case atStart => exact ⟨0, o, by omega, Lib.hid HOL.out, rfl, hown, hbel, hP⟩
      case round =>
        obtain ⟨q, o', hq, hol', rfl, hown', hbel', hP'⟩ := hrel
        by_cases hlt2 : q < 32
        · rcases (HA.out.keep hbel').cases with ⟨hx0, _⟩ | ⟨_, b1, o1, k1, hv1, hk1, hm1, hb1, hcell1⟩
          · rw [hx0] at hlt; simp at hlt
          simp only [Value.slice.injEq] at hv1
          obtain ⟨rfl, _, rfl⟩ := hv1
          have q1 := hcell1 k hlt
          clear hcell1
          go_wp2_with (at_builtin; go_must (refine append_one er123 rfl rfl hown' rfl rfl rfl (by simp [Value.oneCell']) (by omega) (by omega) hbel'.size ?_); intro v' w1 hown1 _ hb1 hne1)
          go_roundw
          case rel =>
            refine ⟨q + 1, o' ++ [_], by omega, Lib.hid (by rw [List.length_append, hol'.out]; rfl), by go_num, by rw [List.map_append]; exact hown1, hbel'.trans hb1, Lib.hid ?_⟩
            refine from_step hol'.out ?_ hP'.out
            exact bit_of _ _ hxk0
          case measure => simp [intOf] <;> omega
        · obtain rfl : q = 32 := by omega
          have hE := Lib.hid (from_end hxk0 hP'.out)
          go_wp2_with fail
          go_roundw
          case rel =>
            exact ⟨k + 1, o', by omega, by rw [hol'.out]; omega, by go_num, hown', hbel', hE⟩
          case measure => simp [intOf] <;> omega
    · obtain rfl : k = a.length := by omega
      have hval : Hid (bval o = val a) := Lib.hid (by rw [hP.out, List.take_length, nth_ge (Nat.le_refl _)]; simp)
      have HBT : Hid (BitAt wr u3 o) := Lib.hid (RowAt.owned hown)
      have hol2 : o.length ≤ 1000000 := by rw [HOL.out]; omega
      have HL := Lib.hid hol2
      clear hown hol2
      go_wp2_with (go_at_call 120; refine (rtrim_any _ _ _ HBT.out HL.out).mono ?_; rw [hval.out]; rintro e w4 ⟨v4, rfl, hv4, hb4⟩)
      go_ret
      exact ⟨_, rfl, hv4, bel2' hbel hb4⟩

end Go.Proofs.YtbnhgmikegdppaaGreat

namespace Go.Proofs.YtbnhgmikegdppaaGreat
open Go.RowKit Go.Proofs.Kit Go.Proofs.Nums

theorem ret_v {a b : Bool} (h : a = b) : Ending.returned (.bool a) = .returned (.bool b) := by rw [h]

/-- electionref01.Eq. -/
def eqN (a b : List Nat) : Bool := decide (a = b)

theorem eqN_len {a b : List Nat} (h : a.length ≠ b.length) : eqN a b = false := by unfold eqN; simp; intro h'; exact h (by rw [h'])
theorem eqN_ne {a b : List Nat} {k : Nat} (h : nth a k ≠ nth b k) : eqN a b = false := by unfold eqN; simp; intro h'; exact h (by rw [h'])
theorem eqN_all {a b : List Nat} (h : a.length = b.length) (hh : ∀ j, j < a.length → nth a j = nth b j) : eqN a b = true := by
  unfold eqN; simp
  refine List.ext_getElem h fun i h1 h2 => ?_
  have := hh i h1
  rw [nth_lt h1, nth_lt h2] at this; exact this

set_option maxHeartbeats 2000000 in
theorem req_any (va vb : Value) (a b : List Nat) (w : World) (ha : NatAt w va a) (hb : NatAt w vb b) (hla : a.length ≤ 1000000) (_hlb : b.length ≤ 1000000) :
    Calls Tryz.prog 82 #[va, vb] w fun e w' => e = .returned (.bool (eqN a b)) ∧ Below w.heap.size w w' := by
  obtain ⟨p1, c1, rfl⟩ := ha.shape
  obtain ⟨p2, c2, rfl⟩ := hb.shape
  have HA := Lib.hid ha
  have HB := Lib.hid hb
  clear ha hb
  by_cases hl : a.length = b.length
  · have hl1 : a.length ≤ b.length := by omega
    have hl2 : b.length ≤ a.length := by omega
    have hne : ((a.length : Int) != (b.length : Int)) = false := by rw [hl]; simp
    have HL := Lib.hid hl
    clear hl
    go_enter Tryz.func82, Tryz.ntmps82
    go_wp2_with fail
    go_loopw [5] (fun i wr => ∃ k : Nat, k ≤ a.length ∧ i = .int .i64 k ∧ (∃ n, wr = w.drewN n) ∧ Hid (∀ j, j < k → nth a j = nth b j)) (fun i _ => a.length - (intOf i).toNat)
    case atStart => exact ⟨0, by omega, rfl, ⟨0, rfl⟩, Lib.hid fun _ h => absurd h (by omega)⟩
    case round =>
      obtain ⟨k, hk, rfl, ⟨n, rfl⟩, hP⟩ := hrel
      by_cases hlt : k < a.length
      · rcases HA.out.cases with ⟨hx0, _⟩ | ⟨_, b1, o1, k1, hv1, hk1, hm1, hb1, hcell1⟩
        · rw [hx0] at hlt; simp at hlt
        rcases HB.out.cases with ⟨hy0, _⟩ | ⟨_, b2, o2, k2, hv2, hk2, hm2, hb2, hcell2⟩
        · exfalso; rw [hy0] at hl1; simp only [List.length_nil] at hl1; omega
        simp only [Value.slice.injEq] at hv1 hv2
        obtain ⟨rfl, _, rfl⟩ := hv1
        obtain ⟨rfl, _, rfl⟩ := hv2
        have q1 := hcell1 k (by omega)
        have q2 := hcell2 k (by omega)
        clear hcell1 hcell2
        by_cases heq : nth a k = nth b k
        · have HEQ := Lib.hid heq
          have hb' : ((nth a k : Int) != (nth b k : Int)) = false := by rw [heq]; simp
          clear heq
          go_wp2_with fail
          go_quiet (fail)
          go_wp2_with fail
          go_roundw
          case rel =>
            refine ⟨k + 1, by omega, by go_num, ⟨_, by first | rfl | (rw [World.drewN_drewN])⟩, Lib.hid fun j hj => ?_⟩
            by_cases hjk : j < k
            · exact hP.out j hjk
            · obtain rfl : j = k := by omega
              exact HEQ.out
          case measure => simp [intOf]; omega
        · have HE := Lib.hid (eqN_ne heq)
          have hb' : ((nth a k : Int) != (nth b k : Int)) = true := by rw [bne_iff_ne]; omega
          clear heq
          go_wp2_with fail
          go_quiet (fail)
          go_wp2_with fail
          go_ret
          exact ⟨ret_v (by rw [HE.out]), below_drewN (below_drewN (Below.refl _ _) _) _⟩
      · have HE := Lib.hid (eqN_all HL.out (fun j hj => hP.out j (by omega)))
        go_wp2_with fail
        go_ret
        exact ⟨ret_v (by rw [HE.out]), below_drewN (Below.refl _ _) _⟩
  · have HE := Lib.hid (eqN_len hl)
    have hne : ((a.length : Int) != (b.length : Int)) = true := by rw [bne_iff_ne]; omega
    clear hl
    go_enter Tryz.func82, Tryz.ntmps82
    go_wp2_with fail
    go_ret
    exact ⟨ret_v (by rw [HE.out]), Below.refl _ _⟩

end Go.Proofs.YtbnhgmikegdppaaGreat

namespace Go.Proofs.YtbnhgmikegdppaaGreat
open Go.RowKit Go.Proofs.Kit Go.Proofs.Nums
end Go.Proofs.YtbnhgmikegdppaaGreat
