/- Contracts and plain facts, part 14: J1, In, Io, Ip, J2. No condition beyond those that each theorem states. -/
import Derived.Test.YtbnhgmikegdppaaGreatQM
import Derived.BigQuiet
/- electionmake: Names, Contest, RenamePile. -/
namespace Go.Proofs.YtbnhgmikegdppaaGreat
open Go.RowKit Go.Proofs.Kit Go.Proofs.Nums

theorem erS : ElemRow Tryz.prog 22 9 (.string ByteArray.empty) 1 16 := ⟨Tryz.underlying22, by kernel_rfl, rfl, by decide⟩

set_option maxRecDepth 100000 in
set_option maxHeartbeats 2000000 in
theorem names_c (n : Nat) (hn : n ≤ 12) (w : World) :
    Calls Tryz.prog 20 #[.int .i64 n] w fun e w' => ∃ p c, e = .returned (.slice p n c) ∧ Below w.heap.size w w' := by
  go_enter Tryz.func20, Tryz.ntmps20
  go_wp2_with fail
  go_loopw [3, 4] (fun ov iv wr => ∃ k : Nat, ∃ xs, k ≤ n ∧ iv = .int .i64 k ∧ wr.ownsRow w.heap.size 9 1 ov k xs ∧ Below w.heap.size w wr) (fun _ iv _ => n - (intOf iv).toNat)
  case atStart => exact ⟨0, [], by omega, rfl, (World.ownsRow_nil _ _ _ _ : w.ownsRow w.heap.size 9 1 (.slice none 0 0) 0 []), Below.refl _ _⟩
  case round =>
    obtain ⟨k, xs, hk, rfl, hown, hbel⟩ := hrel
    by_cases hlt : k < n
    · have hltz : (k : Int) < (n : Int) := by omega
      have hw1 : IntKind.i64.wrap (97 + (k : Int)) = 97 + (k : Int) := w64 (by omega) (by omega)
      have hbv : byteV (UInt8.ofNat (97 + k)) = .int .u8 (97 + (k : Int)) := by
        unfold byteV
        have : (UInt8.ofNat (97 + k)).toNat = 97 + k := by rw [UInt8.toNat_ofNat']; omega
        rw [this]
        simp
      have hconv := string_of_owned 91 9 Tryz.underlying91 Tryz.underlying5 Tryz.underlying9 (P := Tryz.prog) (l := [UInt8.ofNat (97 + k)]) (World.ownsRow_lit (base := wr.heap.size) (e := 5) (size := 1) wr #[.int .u8 (97 + (k : Int))] 1 (Nat.le_refl _) (by unfold maxLen; omega) rfl |> fun h => by rw [show [UInt8.ofNat (97 + k)].map byteV = #[Value.int .u8 (97 + (k : Int))].toList by rw [List.map_cons, List.map_nil, hbv]]; exact h)
      obtain ⟨sv, hsv⟩ : ∃ sv, (⟨[UInt8.ofNat (97 + k)].toArray⟩ : ByteArray) = sv := ⟨_, rfl⟩
      rw [hsv] at hconv
      have hown2 := Lib.hid (ownsRow_below hown ((Below.refl wr.heap.size wr).alloc (Nat.le_refl _) (.cells #[.int .u8 (97 + (k : Int))] 5)))
      have hbel2 : Below w.heap.size w (wr.alloc (.cells #[.int .u8 (97 + (k : Int))] 5)) := hbel.alloc hbel.size _
      clear hsv hbv hown
      go_wp2_with (at_builtin; go_must (refine append_one erS rfl rfl hown2.out rfl (by show Value.slice (some ⟨wr.heap.size + 1, 0, none⟩) 1 1 = _; simp) rfl (by simp [Value.oneCell']) (by omega) (by omega) hbel2.size ?_); intro v' w1 hown1 _ hb1 hne1)
      go_roundw
      case rel => exact ⟨k + 1, _, by omega, by go_num, hown1, hbel2.trans hb1⟩
      case measure => simp [intOf] <;> omega
    · obtain rfl : n = k := by omega
      obtain ⟨p, c, rfl, _, _⟩ := own_shp hown
      go_wp2_with fail
      go_ret
      exact ⟨p, c, rfl, hbel⟩

def nmV : Value := .string ⟨#[99]⟩
/-- The contest that is made. -/
def conM (p : Option Addr) (n c : Nat) (ties : Int) : ConP := ⟨nmV, p, n, c, 1, 1, 0, 0, ties, 0, 0⟩

set_option maxRecDepth 100000 in
set_option maxHeartbeats 2000000 in
theorem contest_c (n : Nat) (hn : n ≤ 12) (ties : Int) (w : World) :
    Calls Tryz.prog 9 #[.int .i64 0, .int .i64 n, .int .i64 0, .int .i64 0, .int .i64 ties] w fun e w' => ∃ p c, e = .returned (conC (conM p n c (1 + ties % 3))) ∧ Below w.heap.size w w' := by
  have NM := Lib.hid (fun wq => names_c n hn wq)
  have M0 : Hid (∀ w, Calls Tryz.prog 8 #[.int .i64 0, .int .i64 3] w fun e w' => e = .returned (.int .i64 0) ∧ w = w') := Lib.hid (fun w => mod_c 0 3 (by omega) (by omega) w)
  have M5 : Hid (∀ w, Calls Tryz.prog 8 #[.int .i64 0, .int .i64 5] w fun e w' => e = .returned (.int .i64 0) ∧ w = w') := Lib.hid (fun w => mod_c 0 5 (by omega) (by omega) w)
  obtain ⟨t, ht⟩ : ∃ t, ties % 3 = t := ⟨_, rfl⟩
  have MT : Hid (∀ w, Calls Tryz.prog 8 #[.int .i64 ties, .int .i64 3] w fun e w' => e = .returned (.int .i64 t) ∧ w = w') := Lib.hid (fun w => by rw [← ht]; exact mod_c ties 3 (by omega) (by omega) w)
  have ht0 : 0 ≤ t ∧ t < 3 := by omega
  rw [ht]
  have hw1 : IntKind.i64.wrap (1 + t) = 1 + t := w64 (by omega) (by omega)
  clear ht
  unfold conM conC conV nmV
  have hb0 : Below w.heap.size w (w.alloc (.cells #[.string ByteArray.empty, .slice none 0 0, .int .i64 0, .int .i64 0, .int .i64 0, .int .i64 0, .int .i64 0, .int .i64 0, .int .i64 0] 24)) := (Below.refl _ _).alloc (Nat.le_refl _) _
  have K0 := Blk.new w #[.string ByteArray.empty, .slice none 0 0, .int .i64 0, .int .i64 0, .int .i64 0, .int .i64 0, .int .i64 0, .int .i64 0, .int .i64 0] 24
  go_enter Tryz.func9, Tryz.ntmps9
  go_wp2_with (first
    | (go_at_call 20; ((with_reducible refine (NM.out _).mono ?_); rintro _ w1 ⟨p, c, rfl, hb1⟩; have K1 := (K0.keep hb1).alloc (.cells #[.string ⟨#[99]⟩, .slice p n c, .int .i64 1, .int .i64 1, .int .i64 0, .int .i64 0, .int .i64 (1 + t), .int .i64 0, .int .i64 0] 24); have hB1 := bel2' hb0 hb1; obtain ⟨c0, c1, c2, c3, c4, c5, c6, c7, c8⟩ := nine_cells K1; have f0 := K1.2.2 0; have f1 := K1.2.2 1; have f2 := K1.2.2 2; have f3 := K1.2.2 3; have f4 := K1.2.2 4; have f5 := K1.2.2 5; have f6 := K1.2.2 6; have f7 := K1.2.2 7; have f8 := K1.2.2 8; have K0 := Lib.hid K0; have K1 := Lib.hid K1))
    | (go_at_call 8; ((with_reducible refine (MT.out _).mono ?_); rintro _ w2 ⟨rfl, rfl⟩))
    | (go_at_call 8; ((with_reducible refine (M0.out _).mono ?_); rintro _ w2 ⟨rfl, rfl⟩))
    | (go_at_call 8; ((with_reducible refine (M5.out _).mono ?_); rintro _ w2 ⟨rfl, rfl⟩)))
  refine bodyPost_ret (v := .agg #[.string ⟨#[99]⟩, .slice p n c, .int .i64 1, .int .i64 1, .int .i64 0, .int .i64 0, .int .i64 (1 + t), .int .i64 0, .int .i64 0]) (by simp [results, Tryz.results9, go_sem, c0, c1, c2, c3, c4, c5, c6, c7, c8]) rfl ?_
  refine ⟨p, c, rfl, ?_⟩
  have hbA := hB1.alloc hB1.size (.cells #[.string ⟨#[99]⟩, .slice p n c, .int .i64 1, .int .i64 1, .int .i64 0, .int .i64 0, .int .i64 (1 + t), .int .i64 0, .int .i64 0] 24)
  have one : ∀ {w2 : World} (j : Nat) (v : Value), Below w.heap.size w w2 → Below w.heap.size w (w2.setCell ⟨w.heap.size, j, none⟩ v) := fun {w2} j v h => h.setCell (p := ⟨w.heap.size, j, none⟩) (Nat.le_refl _) v
  exact one _ _ (one _ _ (one _ _ (one _ _ (one _ _ (one _ _ (one _ _ (one _ _ (one _ _ hbA))))))))

end Go.Proofs.YtbnhgmikegdppaaGreat

/- slices.IndexFunc with the test of a count's winner. -/
namespace Go.Proofs.Nums
/-- The test by the rows of votes. -/
def overQ (l : List Int) (q : Int) (c : Int) : Bool := decide (q ≤ l.getD c.toNat 0)
theorem head_find {f : Int → Bool} {a : Int} {t : List Int} (h : f a = true) : (a :: t).find? f = some a := by rw [List.find?_cons, h]
end Go.Proofs.Nums
namespace Go.Proofs.YtbnhgmikegdppaaGreat
open Go.RowKit Go.Proofs.Kit Go.Proofs.Nums

set_option maxHeartbeats 2000000 in
theorem count1_c {vv : Value} {l : List Int} {q : Int} {K1 K2 : Nat} {w : World} (h1 : w.cell? ⟨K1, 0, none⟩ = some vv) (h2 : w.cell? ⟨K2, 0, none⟩ = some (.int .i64 q)) (hv : IntsAt w vv l) (c : Nat) (hc : c < l.length) :
    Calls Tryz.prog 28 #[.int .i64 c, .pointer (some ⟨K1, 0, none⟩), .pointer (some ⟨K2, 0, none⟩)] w fun e w' => e = .returned (.bool (overQ l q c)) ∧ Below w.heap.size w w' := by
  have H := Lib.hid hv
  have hlm := hv.len
  obtain ⟨p, cp, rfl⟩ := hv.shape
  obtain ⟨b, off, e, i1, i2, hcell⟩ := H.out.cellAt c hc
  subst e
  obtain ⟨x, hx⟩ : ∃ x, l.getD c 0 = x := ⟨_, rfl⟩
  rw [hx] at hcell
  have HR : Hid (overQ l q c = decide (q ≤ x)) := Lib.hid (by unfold overQ; rw [Int.toNat_natCast, hx])
  rw [HR.out]
  obtain ⟨r, hr⟩ : ∃ r, decide (q ≤ x) = r := ⟨_, rfl⟩
  have HRr := Lib.hid hr
  rw [hr]
  obtain ⟨len, hlen⟩ : ∃ n, l.length = n := ⟨_, rfl⟩
  rw [hlen] at hlm hc i1 h1
  have hz : (c : Int) < (len : Int) := by omega
  clear hx hr hlen H hv
  go_enter Tryz.func28, Tryz.ntmps28
  go_wp2_with fail
  go_quiet (fail)
  all_goals
    go_wp2_with fail
    go_ret
    exact ⟨ret_bb (by first | rfl | exact HRr.out | (rw [← HRr.out])), below_drewN (Below.refl _ _) _⟩

set_option maxRecDepth 100000 in
set_option maxHeartbeats 2000000 in
theorem indexwin_c {va vv : Value} {al l : List Int} {q : Int} {w : World} {K1 K2 : Nat} (ha : IntsAt w va al) (h0 : ∀ x ∈ al, 0 ≤ x ∧ x < (l.length : Int)) (h1 : w.cell? ⟨K1, 0, none⟩ = some vv) (h2 : w.cell? ⟨K2, 0, none⟩ = some (.int .i64 q)) (hv : IntsAt w vv l) :
    Calls Tryz.prog 27 #[va, .func (.func 28) #[] #[.pointer (some ⟨K1, 0, none⟩), .pointer (some ⟨K2, 0, none⟩)]] w fun e w' => e = .returned (.int .i64 (indexF (overQ l q) al)) ∧ Below w.heap.size w w' := by
  have PR : Hid (∀ wq, Below w.heap.size w wq → ∀ x : Int, 0 ≤ x → x < (l.length : Int) → Calls Tryz.prog 28 #[.int .i64 x, .pointer (some ⟨K1, 0, none⟩), .pointer (some ⟨K2, 0, none⟩)] wq fun e w' => e = .returned (.bool (overQ l q x)) ∧ Below wq.heap.size wq w') := Lib.hid (fun wq h x hx hx1 => by
    obtain ⟨c, rfl⟩ : ∃ c : Nat, x = c := ⟨x.toNat, by omega⟩
    exact count1_c (cell_keep h h1) (cell_keep h h2) (hv.keep h) c (by omega))
  have H := Lib.hid ha
  have H0 := Lib.hid h0
  have hlm := ha.len
  obtain ⟨p, c, rfl⟩ := ha.shape
  obtain ⟨len, hlen⟩ : ∃ n, al.length = n := ⟨_, rfl⟩
  have HN := Lib.hid hlen
  rw [hlen] at H hlm ⊢
  obtain ⟨z, hz⟩ : ∃ z, indexF (overQ l q) al = z := ⟨_, rfl⟩
  have HZ := Lib.hid hz
  rw [hz]
  clear ha h1 h2 hv hlen hz h0
  go_enter Tryz.func27, Tryz.ntmps27
  go_wp2_with fail
  go_loopw [8] (fun iv wr => ∃ k : Nat, k ≤ len ∧ iv = .int .i64 k ∧ Below w.heap.size w wr ∧ Hid (∀ x ∈ al.take k, overQ l q x = false)) (fun iv _ => len - (intOf iv).toNat)
  case atStart => exact ⟨0, by omega, rfl, Below.refl _ _, Lib.hid (fun x hx => by simp at hx)⟩
  case round =>
    obtain ⟨k, hk, rfl, hbel, hP⟩ := hrel
    by_cases hlt : k < len
    · have hltz : (k : Int) < (len : Int) := by omega
      obtain ⟨bb, off, hp0, hc1, hc2, hcell⟩ := (H.out.keep hbel).cellAt k (by rw [HN.out]; exact hlt)
      subst hp0
      obtain ⟨y, hy⟩ : ∃ y, al.getD k 0 = y := ⟨_, rfl⟩
      rw [hy] at hcell
      have hy0 := H0.out y (mem_getD (by rw [HN.out]; exact hlt) hy)
      have C := PR.out wr hbel y hy0.1 hy0.2
      cases hb : overQ l q y
      · rw [hb] at C
        have C := Lib.hid C
        have HX := Lib.hid (none_snoc (by rw [HN.out]; exact hlt) hy hP.out hb)
        clear hb hy
        go_wp2_with (go_at_call 28; ((with_reducible refine C.out.mono ?_); rintro _ w3 ⟨rfl, hb3⟩; have hB3 := bel2' hbel hb3))
        go_roundw
        case rel => exact ⟨k + 1, by omega, by go_num, hB3, HX⟩
        case measure => simp [intOf] <;> omega
      · rw [hb] at C
        have C := Lib.hid C
        have HX : Hid ((k : Int) = z) := Lib.hid (by rw [← HZ.out]; exact (indexF_at (by rw [HN.out]; exact hlt) hP.out (by rw [hy]; exact hb)).1.symm)
        clear hb hy
        go_wp2_with (go_at_call 28; ((with_reducible refine C.out.mono ?_); rintro _ w3 ⟨rfl, hb3⟩; have hB3 := bel2' hbel hb3))
        go_ret
        exact ⟨ret_ii HX.out, hB3⟩
    · have hltz : ¬ (k : Int) < (len : Int) := by omega
      have HX : Hid ((-1 : Int) = z) := Lib.hid (by rw [← HZ.out, (indexF_no (by have := hP.out; rwa [List.take_of_length_le (by rw [HN.out]; omega)] at this)).1])
      go_wp2_with fail
      go_ret
      exact ⟨ret_ii HX.out, hbel⟩

end Go.Proofs.YtbnhgmikegdppaaGreat

/- irv.Count. -/
namespace Go.Proofs.Nums

theorem count_win {whole : Bool} {brk : List (List Int) → List Int → Int} {gs : List Grp} {k : Nat} {rem : List Bool} {ear : List (List Int)} {x : Int} (h : (aliveS rem).find? (wins whole gs rem) = some x) : countS whole brk gs (k + 1) rem ear = [mkR gs rem [x] [] []] := by
  rw [countS.eq_def]; simp only; rw [h]
theorem count_next {whole : Bool} {brk : List (List Int) → List Int → Int} {gs : List Grp} {k : Nat} {rem : List Bool} {ear : List (List Int)} (h : (aliveS rem).find? (wins whole gs rem) = none) :
    countS whole brk gs (k + 1) rem ear = mkR gs rem [] [exclS brk gs rem ear] (tiedW gs rem) :: countS whole brk gs k (rem.set (exclS brk gs rem ear).toNat false) (ear ++ [votesS gs rem]) := by
  rw [countS.eq_def]; simp only; rw [h]
theorem find_same {f g : Int → Bool} {l : List Int} (h : ∀ x ∈ l, f x = g x) : l.find? f = l.find? g := by
  induction l with
  | nil => rfl
  | cons a l ih => rw [List.find?_cons, List.find?_cons, h a (by simp), ih fun x hx => h x (by simp [hx])]
/-- How the code finds the winner. -/
theorem win_cases (gs : List Grp) (rem : List Bool) (_h0 : 1 ≤ (aliveS rem).length) :
    ((aliveS rem).length = 1 ∧ ∃ x, (aliveS rem).getD 0 0 = x ∧ (aliveS rem).find? (wins false gs rem) = some x) ∨
    ((aliveS rem).length ≠ 1 ∧ ∃ (i : Nat) (x : Int), i < (aliveS rem).length ∧ indexF (overQ (votesS gs rem) (quotaS gs rem)) (aliveS rem) = i ∧ (aliveS rem).getD i 0 = x ∧ (aliveS rem).find? (wins false gs rem) = some x) ∨
    ((aliveS rem).length ≠ 1 ∧ indexF (overQ (votesS gs rem) (quotaS gs rem)) (aliveS rem) = -1 ∧ (aliveS rem).find? (wins false gs rem) = none) := by
  by_cases h1 : (aliveS rem).length = 1
  · left
    refine ⟨h1, _, rfl, ?_⟩
    obtain ⟨a, ha⟩ := List.length_eq_one_iff.1 h1
    have hw : wins false gs rem a = true := by unfold wins; rw [h1]; simp
    rw [ha]
    simp [hw]
  · right
    have hs : (aliveS rem).find? (wins false gs rem) = (aliveS rem).find? (overQ (votesS gs rem) (quotaS gs rem)) := find_same fun x hx => by
      have hr := remB_lt (mem_alive.1 hx)
      unfold wins overQ
      rw [votes_get hr.1 hr.2, decide_eq_false h1]
      simp
    rw [hs]
    rcases indexF_cases (overQ (votesS gs rem) (quotaS gs rem)) (aliveS rem) with ⟨a, b⟩ | ⟨i, a, b, c⟩
    · exact .inr ⟨h1, a, b⟩
    · exact .inl ⟨h1, i, _, a, b, rfl, c⟩

end Go.Proofs.Nums
namespace Go.Proofs.YtbnhgmikegdppaaGreat
open Go.RowKit Go.Proofs.Kit Go.Proofs.Nums

theorem erRd : ElemRow Tryz.prog 35 53 (.agg #[.slice none 0 0, .slice none 0 0, .bool false, .slice none 0 0, .slice none 0 0, .bool false, .slice none 0 0, .slice none 0 0, .bool false, .slice none 0 0, .slice none 0 0, .slice none 0 0, .slice none 0 0, .slice none 0 0]) 14 288 := ⟨Tryz.underlying35, by kernel_rfl, rfl, by decide⟩
/-- The two variables laid behind the call of round. -/
theorem cnt_a2 {wr W4 w5 W6 : World} {K1 rb : Nat} {v4 : Value} {cs : Array Value} {q : Int} {l : List Int} {t1 t2 : TypeId} (hb4 : Below wr.heap.size wr W4) (hb5 : Below W4.heap.size W4 w5) (h4 : IntsAt W4 v4 l) (k4 : W4.cell? ⟨K1, 0, none⟩ = some v4) (hrb : w5.heap.size = rb) (hW : (w5.alloc (.cells cs t1)).alloc (.cells #[.int .i64 q] t2) = W6) :
    Below wr.heap.size wr W6 ∧ Blk rb cs W6 ∧ W6.cell? ⟨rb + 1, 0, none⟩ = some (.int .i64 q) ∧ W6.cell? ⟨K1, 0, none⟩ = some v4 ∧ IntsAt W6 v4 l ∧ W6.heap.size = rb + 2 ∧ Below w5.heap.size w5 W6 ∧ wr.heap.size ≤ rb := by
  subst hW
  subst hrb
  have b5 : Below w5.heap.size w5 ((w5.alloc (.cells cs t1)).alloc (.cells #[.int .i64 q] t2)) := ((Below.refl w5.heap.size w5).alloc (Nat.le_refl _) _).alloc (by simp) _
  have b46 := bel2' hb5 b5
  have h1 := hb4.size
  have h2 := hb5.size
  refine ⟨bel2' hb4 b46, (Blk.new w5 cs t1).alloc _, ?_, cell_keep b46 k4, h4.keep b46, by simp, b5, by omega⟩
  simp

theorem cells14 {b : Nat} {w : World} {x0 x1 x2 x3 x4 x5 x6 x7 x8 x9 x10 x11 x12 x13 : Value} (h : Blk b #[x0, x1, x2, x3, x4, x5, x6, x7, x8, x9, x10, x11, x12, x13] w) : w.cell? ⟨b, 0, none⟩ = some x0 ∧ w.cell? ⟨b, 1, none⟩ = some x1 ∧ w.cell? ⟨b, 2, none⟩ = some x2 ∧ w.cell? ⟨b, 3, none⟩ = some x3 ∧ w.cell? ⟨b, 4, none⟩ = some x4 ∧ w.cell? ⟨b, 5, none⟩ = some x5 ∧ w.cell? ⟨b, 6, none⟩ = some x6 ∧ w.cell? ⟨b, 7, none⟩ = some x7 ∧ w.cell? ⟨b, 8, none⟩ = some x8 ∧ w.cell? ⟨b, 9, none⟩ = some x9 ∧ w.cell? ⟨b, 10, none⟩ = some x10 ∧ w.cell? ⟨b, 11, none⟩ = some x11 ∧ w.cell? ⟨b, 12, none⟩ = some x12 ∧ w.cell? ⟨b, 13, none⟩ = some x13 := ⟨h.2.1 0, h.2.1 1, h.2.1 2, h.2.1 3, h.2.1 4, h.2.1 5, h.2.1 6, h.2.1 7, h.2.1 8, h.2.1 9, h.2.1 10, h.2.1 11, h.2.1 12, h.2.1 13⟩
theorem frees14 {b : Nat} {w : World} {cs : Array Value} (h : Blk b cs w) : w.frozen? ⟨b, 0, none⟩ = false ∧ w.frozen? ⟨b, 1, none⟩ = false ∧ w.frozen? ⟨b, 2, none⟩ = false ∧ w.frozen? ⟨b, 3, none⟩ = false ∧ w.frozen? ⟨b, 4, none⟩ = false ∧ w.frozen? ⟨b, 5, none⟩ = false ∧ w.frozen? ⟨b, 6, none⟩ = false ∧ w.frozen? ⟨b, 7, none⟩ = false ∧ w.frozen? ⟨b, 8, none⟩ = false ∧ w.frozen? ⟨b, 9, none⟩ = false ∧ w.frozen? ⟨b, 10, none⟩ = false ∧ w.frozen? ⟨b, 11, none⟩ = false ∧ w.frozen? ⟨b, 12, none⟩ = false ∧ w.frozen? ⟨b, 13, none⟩ = false := ⟨h.2.2 0, h.2.2 1, h.2.2 2, h.2.2 3, h.2.2 4, h.2.2 5, h.2.2 6, h.2.2 7, h.2.2 8, h.2.2 9, h.2.2 10, h.2.2 11, h.2.2 12, h.2.2 13⟩
theorem cells6 {b : Nat} {w : World} {x0 x1 x2 x3 x4 x5 : Value} (h : Blk b #[x0, x1, x2, x3, x4, x5] w) : w.cell? ⟨b, 0, none⟩ = some x0 ∧ w.cell? ⟨b, 1, none⟩ = some x1 ∧ w.cell? ⟨b, 2, none⟩ = some x2 ∧ w.cell? ⟨b, 3, none⟩ = some x3 ∧ w.cell? ⟨b, 4, none⟩ = some x4 ∧ w.cell? ⟨b, 5, none⟩ = some x5 := ⟨h.2.1 0, h.2.1 1, h.2.1 2, h.2.1 3, h.2.1 4, h.2.1 5⟩
theorem frees6 {b : Nat} {w : World} {cs : Array Value} (h : Blk b cs w) : w.frozen? ⟨b, 0, none⟩ = false ∧ w.frozen? ⟨b, 1, none⟩ = false ∧ w.frozen? ⟨b, 2, none⟩ = false ∧ w.frozen? ⟨b, 3, none⟩ = false ∧ w.frozen? ⟨b, 4, none⟩ = false ∧ w.frozen? ⟨b, 5, none⟩ = false := ⟨h.2.2 0, h.2.2 1, h.2.2 2, h.2.2 3, h.2.2 4, h.2.2 5⟩
/-- The round with its winner, before it is appended. -/
theorem cnt_win9 {wr W4 w5 w8 W9 : World} {rb : Nat} {a b q1 q2 e1 e2 s1 s2 l2 l3 : Value} {gs : List Grp} {rem : List Bool} {x : Int} {t1 : TypeId}
    (hb8 : Below wr.heap.size wr w8) (hb4 : Below wr.heap.size wr W4) (hb58 : Below w5.heap.size w5 w8) (hrb : w5.heap.size = rb) (hrbw : wr.heap.size ≤ rb) (hM : Made W4.heap.size (fun w => RndH w a b q1 q2 e1 e2 s1 s2 (mkR gs rem [] [] [])) w5)
    (hK : Blk rb #[a, b, .bool false, q1, q2, .bool false, e1, e2, .bool false, s1, s2, .slice none 0 0, l2, l3] w8) (h2 : l2 = .slice none 0 0) (h3 : l3 = .slice none 0 0)
    (hW : (w8.setCell ⟨rb, 11, none⟩ (.slice (some ⟨w8.heap.size, 0, none⟩) 1 1)).alloc (.cells #[.int .i64 x] t1) = W9) :
    Below wr.heap.size wr W9 ∧ Blk rb #[a, b, .bool false, q1, q2, .bool false, e1, e2, .bool false, s1, s2, .slice (some ⟨w8.heap.size, 0, none⟩) 1 1, l2, l3] W9 ∧
    On (fun k => wr.heap.size ≤ k ∧ k < W9.heap.size ∧ k ≠ rb) (fun w => rndR w [a, b, .bool false, q1, q2, .bool false, e1, e2, .bool false, s1, s2, .slice (some ⟨w8.heap.size, 0, none⟩) 1 1, l2, l3] (mkR gs rem [x] [] [])) W9 := by
  subst hW
  have z1 := hb8.size
  have z2 := hb4.size
  have z3 := hb58.size
  have z4 := hK.1
  have hs : (w8.setCell ⟨rb, 11, none⟩ (.slice (some ⟨w8.heap.size, 0, none⟩) 1 1)).heap.size = w8.heap.size := World.size_setCell _ _ _
  have hbs : Below wr.heap.size wr (w8.setCell ⟨rb, 11, none⟩ (.slice (some ⟨w8.heap.size, 0, none⟩) 1 1)) := hb8.setCell (p := ⟨rb, 11, none⟩) hrbw _
  refine ⟨hbs.alloc (by rw [hs]; exact z1) _, (blk_put hK (o := 11) (by simp) _).alloc _, ?_⟩
  have hsame : ∀ k, k < w8.heap.size → k ≠ rb → ((w8.setCell ⟨rb, 11, none⟩ (.slice (some ⟨w8.heap.size, 0, none⟩) 1 1)).alloc (.cells #[.int .i64 x] t1)).heap[k]? = w8.heap[k]? := fun k hk hne => by
    rw [((Below.refl (w8.setCell ⟨rb, 11, none⟩ (.slice (some ⟨w8.heap.size, 0, none⟩) 1 1)).heap.size _).alloc (Nat.le_refl _) (.cells #[.int .i64 x] t1)).block k (by rw [hs]; exact hk), Below.heap_setCell _ _ _ _ (by exact hne)]
  have o1 := On.step (w' := (w8.setCell ⟨rb, 11, none⟩ (.slice (some ⟨w8.heap.size, 0, none⟩) 1 1)).alloc (.cells #[.int .i64 x] t1)) hM fun k hk => by rw [hsame k (by omega) (by omega), hb58.block k hk.2]
  have o2 := RowAt.on_own (one_row (w8.setCell ⟨rb, 11, none⟩ (.slice (some ⟨w8.heap.size, 0, none⟩) 1 1)) x t1)
  rw [hs] at o2
  have o1' := On.mono (G := fun k => wr.heap.size ≤ k ∧ k < ((w8.setCell ⟨rb, 11, none⟩ (.slice (some ⟨w8.heap.size, 0, none⟩) 1 1)).alloc (.cells #[.int .i64 x] t1)).heap.size ∧ k ≠ rb) o1 fun k hk => ⟨by omega, by simp; omega, by omega⟩
  have o2' := On.mono (G := fun k => wr.heap.size ≤ k ∧ k < ((w8.setCell ⟨rb, 11, none⟩ (.slice (some ⟨w8.heap.size, 0, none⟩) 1 1)).alloc (.cells #[.int .i64 x] t1)).heap.size ∧ k ≠ rb) o2 fun k hk => by
    have e : w8.heap.size = k := by simpa [Value.ownBlock] using hk
    exact ⟨by omega, by simp; omega, by omega⟩
  refine (o1'.both o2').imp fun w' g => ⟨_, _, _, _, _, _, _, _, _, _, _, rfl, ⟨g.1.votes, g.1.keep, g.1.quota, g.1.exh, g.1.sur⟩, g.2, ?_, ?_⟩
  · rw [h2]; exact RowAt.nil _
  · rw [h3]; exact RowAt.nil _

theorem cnt_el {wr W9 : World} {E rb : Nat} {t1 t2 : TypeId} {k1 k2 : Nat} {α β : Type} {R1 : World → List Value → α → Prop} {R2 : World → List Value → β → Prop} {o1 o2 : Nat → Prop} {v1 v2 : Value} {l1 : List α} {l2 : List β} {c1 c2 : List (List Value)} {S : World → Prop}
    (h1 : Lst2 R1 E o1 t1 k1 v1 wr l1 c1) (h2 : Lst2 R2 E o2 t2 k2 v2 wr l2 c2) (hE : E ≤ wr.heap.size) (h : On (fun k => wr.heap.size ≤ k ∧ k < W9.heap.size ∧ k ≠ rb) S W9) :
    On (fun b => E ≤ b ∧ b < W9.heap.size ∧ v2.ownBlock ≠ some b ∧ ¬ v1.ownBlock = some b) S W9 :=
  On.mono h fun b hb => ⟨by omega, hb.2.1, fun e => by have := (h2.lt b e).2; omega, fun e => by have := (h1.lt b e).2; omega⟩
theorem cnt_ob {wr W9 : World} {E : Nat} {t1 : TypeId} {k1 : Nat} {α : Type} {R1 : World → List Value → α → Prop} {o1 : Nat → Prop} {v1 : Value} {l1 : List α} {c1 : List (List Value)}
    (h1 : Lst2 R1 E o1 t1 k1 v1 wr l1 c1) (hs : wr.heap.size ≤ W9.heap.size) : ∀ b, v1.ownBlock = some b → b < W9.heap.size := fun b e => Nat.lt_of_lt_of_le (h1.lt b e).2 hs
theorem cnt_lc {w8 W9 W6 : World} {rb b7 j : Nat} {u : Value} {ob : Obj} {v : Value} (hb7 : W6.heap.size ≤ b7) (hs6 : W6.heap.size = rb + 2) (h : w8.cell? ⟨b7, j, none⟩ = some v) (HW : (w8.setCell ⟨rb, 11, none⟩ u).alloc ob = W9) : W9.cell? ⟨b7, j, none⟩ = some v := by
  subst HW
  refine cell_alloc_old ?_
  rw [World.cell?_of_block (a := ⟨b7, j, none⟩) (Below.heap_setCell w8 ⟨rb, 11, none⟩ u b7 (by simp only; omega))]
  exact h

theorem cnt_fin {w w10 : World} {E T R : Nat} {o : Nat → Prop} {v u4 u5 y0 y1 y2 y3 y4 y5 : Value} {l : List Rnd} {css : List (List Value)} {x : Int} {t1 : TypeId} (hL : Lst2 rndR E o 53 14 v w10 l css) (hTE : T < E) (hRE : R < E) (hb : Below w.heap.size w w10) (hT0 : w.heap.size ≤ T) (hR0 : w.heap.size ≤ R) :
    Made w.heap.size (fun w => SliceOf rndR 14 w v l) (((((((((w10.setCell ⟨T, 4, none⟩ u4).setCell ⟨T, 5, none⟩ u5).setCell ⟨R, 0, none⟩ y0).setCell ⟨R, 1, none⟩ y1).setCell ⟨R, 2, none⟩ y2).setCell ⟨R, 3, none⟩ y3).setCell ⟨R, 4, none⟩ y4).setCell ⟨R, 5, none⟩ y5).alloc (.cells #[.int .i64 x] t1)) ∧ Made w.heap.size (fun w => IntsAt w (.slice (some ⟨w10.heap.size, 0, none⟩) 1 1) [x]) (((((((((w10.setCell ⟨T, 4, none⟩ u4).setCell ⟨T, 5, none⟩ u5).setCell ⟨R, 0, none⟩ y0).setCell ⟨R, 1, none⟩ y1).setCell ⟨R, 2, none⟩ y2).setCell ⟨R, 3, none⟩ y3).setCell ⟨R, 4, none⟩ y4).setCell ⟨R, 5, none⟩ y5).alloc (.cells #[.int .i64 x] t1)) ∧ Below w.heap.size w (((((((((w10.setCell ⟨T, 4, none⟩ u4).setCell ⟨T, 5, none⟩ u5).setCell ⟨R, 0, none⟩ y0).setCell ⟨R, 1, none⟩ y1).setCell ⟨R, 2, none⟩ y2).setCell ⟨R, 3, none⟩ y3).setCell ⟨R, 4, none⟩ y4).setCell ⟨R, 5, none⟩ y5).alloc (.cells #[.int .i64 x] t1)) := by
  have hs : ((((((((w10.setCell ⟨T, 4, none⟩ u4).setCell ⟨T, 5, none⟩ u5).setCell ⟨R, 0, none⟩ y0).setCell ⟨R, 1, none⟩ y1).setCell ⟨R, 2, none⟩ y2).setCell ⟨R, 3, none⟩ y3).setCell ⟨R, 4, none⟩ y4).setCell ⟨R, 5, none⟩ y5).heap.size = w10.heap.size := by simp
  have hL2 := (((((((hL.put (j := 4) hTE u4).put (j := 5) hTE u5).put (j := 0) hRE y0).put (j := 1) hRE y1).put (j := 2) hRE y2).put (j := 3) hRE y3).put (j := 4) hRE y4).put (j := 5) hRE y5
  have hbb : Below w.heap.size w ((((((((w10.setCell ⟨T, 4, none⟩ u4).setCell ⟨T, 5, none⟩ u5).setCell ⟨R, 0, none⟩ y0).setCell ⟨R, 1, none⟩ y1).setCell ⟨R, 2, none⟩ y2).setCell ⟨R, 3, none⟩ y3).setCell ⟨R, 4, none⟩ y4).setCell ⟨R, 5, none⟩ y5) := (((((((hb.setCell (p := ⟨T, 4, none⟩) hT0 u4).setCell (p := ⟨T, 5, none⟩) hT0 u5).setCell (p := ⟨R, 0, none⟩) hR0 y0).setCell (p := ⟨R, 1, none⟩) hR0 y1).setCell (p := ⟨R, 2, none⟩) hR0 y2).setCell (p := ⟨R, 3, none⟩) hR0 y3).setCell (p := ⟨R, 4, none⟩) hR0 y4).setCell (p := ⟨R, 5, none⟩) hR0 y5
  refine ⟨(hL2.keep ((Below.refl _ _).alloc (Nat.le_refl _) _)).lst.made (by omega) (by omega), ?_, hbb.alloc hbb.size _⟩
  have := one_row ((((((((w10.setCell ⟨T, 4, none⟩ u4).setCell ⟨T, 5, none⟩ u5).setCell ⟨R, 0, none⟩ y0).setCell ⟨R, 1, none⟩ y1).setCell ⟨R, 2, none⟩ y2).setCell ⟨R, 3, none⟩ y3).setCell ⟨R, 4, none⟩ y4).setCell ⟨R, 5, none⟩ y5) x t1
  rw [hs] at this
  have hws := hb.size
  exact RowAt.made this (fun b hb => by simp [Value.ownBlock] at hb; omega)

/-- The round with its excluded one, before it is appended. -/
theorem cnt_x10 {w wr W4 w5 w8 w9 W10 : World} {B g E rb T R : Nat} {C : ConP} {vg vl ve ve' vt vtd : Value} {gs : List Grp} {rem rem' : List Bool} {x : Int} {ti : List Int} {t1 : TypeId} {a b q1 q2 e1 e2 s1 s2 : Value} {L L' : List (List Q)} {rds : List Rnd} {css css' csr : List (List Value)} {O2 : Nat → Prop} {cT cR : Array Value}
    (hbel : Below w.heap.size w wr) (hEr : E ≤ wr.heap.size) (hbw8 : Below wr.heap.size wr w8) (hb4 : Below wr.heap.size wr W4) (hb58 : Below w5.heap.size w5 w8) (hrb : w5.heap.size = rb) (hrbw : wr.heap.size ≤ rb)
    (hM : Made W4.heap.size (fun w => RndH w a b q1 q2 e1 e2 s1 s2 (mkR gs rem [] [] [])) w5) (hK8 : Blk rb #[a, b, .bool false, q1, q2, .bool false, e1, e2, .bool false, s1, s2, .slice none 0 0, .slice none 0 0, .slice none 0 0] w8)
    (hL2 : Lst2 rowR E O2 47 1 ve wr L css) (hL3 : Lst2 rndR E (fun b => ve.ownBlock = some b) 53 14 vt wr rds csr)
    (hTd : On (fun b => w8.heap.size ≤ b ∧ b < w9.heap.size ∧ ve'.ownBlock ≠ some b) (fun w => IntsAt w vtd ti) w9) (hC9 : CntAt w9 B g C vg vl ve' rem') (hL9 : Lst2 rowR E (fun b => vt.ownBlock = some b ∨ b = rb) 47 1 ve' w9 L' css')
    (hGr : Grew w8 ve.ownBlock ve'.ownBlock) (hs9 : w8.heap.size ≤ w9.heap.size) (hfr : ∀ b, b < w8.heap.size → b ≠ B → b ≠ g → ve.ownBlock ≠ some b → w9.heap[b]? = w8.heap[b]?) (hb9 : Below w.heap.size w8 w9)
    (hBE : B < E) (hgE : g < E) (hTE : T < E) (hRE : R < E) (hBT : ¬ B = T) (hgT : ¬ g = T) (hRB : ¬ R = B) (hRg : ¬ R = g) (hT : Blk T cT wr) (hR : Blk R cR wr)
    (hW : (((w9.setCell ⟨rb, 12, none⟩ (.slice (some ⟨w9.heap.size, 0, none⟩) 1 1)).setCell ⟨rb, 13, none⟩ vtd).alloc (.cells #[.int .i64 x] t1)) = W10) :
    Blk rb #[a, b, .bool false, q1, q2, .bool false, e1, e2, .bool false, s1, s2, .slice none 0 0, .slice (some ⟨w9.heap.size, 0, none⟩) 1 1, vtd] W10 ∧
    On (fun k => E ≤ k ∧ k < W10.heap.size ∧ vt.ownBlock ≠ some k ∧ ¬ ve'.ownBlock = some k) (fun w => rndR w [a, b, .bool false, q1, q2, .bool false, e1, e2, .bool false, s1, s2, .slice none 0 0, .slice (some ⟨w9.heap.size, 0, none⟩) 1 1, vtd] (mkR gs rem [] [x] ti)) W10 ∧
    CntAt W10 B g C vg vl ve' rem' ∧ Lst2 rowR E (fun b => vt.ownBlock = some b ∨ b = rb) 47 1 ve' W10 L' css' ∧ Lst2 rndR E (fun b => ve'.ownBlock = some b) 53 14 vt W10 rds csr ∧
    Blk T cT W10 ∧ Blk R cR W10 ∧ Below w.heap.size w W10 ∧ wr.heap.size ≤ W10.heap.size ∧ (∀ b, ve'.ownBlock = some b → b < W10.heap.size) := by
  subst hW
  have z1 := hbw8.size
  have z2 := hb4.size
  have z3 := hb58.size
  have z4 := hK8.1
  have z5 := hbel.size
  have hs : ((w9.setCell ⟨rb, 12, none⟩ (.slice (some ⟨w9.heap.size, 0, none⟩) 1 1)).setCell ⟨rb, 13, none⟩ vtd).heap.size = w9.heap.size := by rw [World.size_setCell, World.size_setCell]
  have hsW : (((w9.setCell ⟨rb, 12, none⟩ (.slice (some ⟨w9.heap.size, 0, none⟩) 1 1)).setCell ⟨rb, 13, none⟩ vtd).alloc (.cells #[.int .i64 x] t1)).heap.size = w9.heap.size + 1 := by simp
  have hveo : ∀ k, ve.ownBlock = some k → k < wr.heap.size := fun k e => (hL2.lt k e).2
  have hvto : ∀ k, vt.ownBlock = some k → k < wr.heap.size := fun k e => (hL3.lt k e).2
  have hve'o : ∀ k, ve'.ownBlock = some k → k < w9.heap.size := fun k e => (hL9.lt k e).2
  have s9 : ∀ k, k < w9.heap.size → k ≠ rb → (((w9.setCell ⟨rb, 12, none⟩ (.slice (some ⟨w9.heap.size, 0, none⟩) 1 1)).setCell ⟨rb, 13, none⟩ vtd).alloc (.cells #[.int .i64 x] t1)).heap[k]? = w9.heap[k]? := fun k hk hne => by
    rw [((Below.refl ((w9.setCell ⟨rb, 12, none⟩ (.slice (some ⟨w9.heap.size, 0, none⟩) 1 1)).setCell ⟨rb, 13, none⟩ vtd).heap.size _).alloc (Nat.le_refl _) (.cells #[.int .i64 x] t1)).block k (by rw [hs]; exact hk), Below.heap_setCell _ _ _ _ (by exact hne), Below.heap_setCell _ _ _ _ (by exact hne)]
  have s8 : ∀ k, k < w8.heap.size → k ≠ rb → k ≠ B → k ≠ g → ve.ownBlock ≠ some k → (((w9.setCell ⟨rb, 12, none⟩ (.slice (some ⟨w9.heap.size, 0, none⟩) 1 1)).setCell ⟨rb, 13, none⟩ vtd).alloc (.cells #[.int .i64 x] t1)).heap[k]? = w8.heap[k]? := fun k hk hne h1 h2 h3 => (s9 k (by omega) hne).trans (hfr k hk h1 h2 h3)
  have hK9 : Blk rb #[a, b, .bool false, q1, q2, .bool false, e1, e2, .bool false, s1, s2, .slice none 0 0, .slice none 0 0, .slice none 0 0] w9 := hK8.off (hfr rb z4 (by omega) (by omega) (fun e => by have := hveo rb e; omega)) hs9
  have hK10 := (blk_put (blk_put hK9 (o := 12) (by simp) (.slice (some ⟨w9.heap.size, 0, none⟩) 1 1)) (o := 13) (by simp) vtd).alloc (.cells #[.int .i64 x] t1)
  have o1 := On.step (w' := (((w9.setCell ⟨rb, 12, none⟩ (.slice (some ⟨w9.heap.size, 0, none⟩) 1 1)).setCell ⟨rb, 13, none⟩ vtd).alloc (.cells #[.int .i64 x] t1))) hM fun k hk => by rw [s8 k (by omega) (by omega) (by omega) (by omega) (fun e => by have := hveo k e; omega), hb58.block k hk.2]
  have o2 := RowAt.on_own (one_row ((w9.setCell ⟨rb, 12, none⟩ (.slice (some ⟨w9.heap.size, 0, none⟩) 1 1)).setCell ⟨rb, 13, none⟩ vtd) x t1)
  rw [hs] at o2
  have o3 := On.step (w' := (((w9.setCell ⟨rb, 12, none⟩ (.slice (some ⟨w9.heap.size, 0, none⟩) 1 1)).setCell ⟨rb, 13, none⟩ vtd).alloc (.cells #[.int .i64 x] t1))) hTd fun k hk => s9 k hk.2.1 (by omega)
  have nve : ∀ k, k < w8.heap.size → wr.heap.size ≤ k → ¬ ve'.ownBlock = some k := fun k h1 h2 => hGr.not h1 (fun e => by have := hveo k e; omega)
  have o1' := On.mono (G := fun k => E ≤ k ∧ k < (((w9.setCell ⟨rb, 12, none⟩ (.slice (some ⟨w9.heap.size, 0, none⟩) 1 1)).setCell ⟨rb, 13, none⟩ vtd).alloc (.cells #[.int .i64 x] t1)).heap.size ∧ vt.ownBlock ≠ some k ∧ ¬ ve'.ownBlock = some k) o1 fun k hk => ⟨by omega, by rw [hsW]; omega, fun e => by have := hvto k e; omega, nve k (by omega) (by omega)⟩
  have o2' := On.mono (G := fun k => E ≤ k ∧ k < (((w9.setCell ⟨rb, 12, none⟩ (.slice (some ⟨w9.heap.size, 0, none⟩) 1 1)).setCell ⟨rb, 13, none⟩ vtd).alloc (.cells #[.int .i64 x] t1)).heap.size ∧ vt.ownBlock ≠ some k ∧ ¬ ve'.ownBlock = some k) o2 fun k hk => by
    have e : w9.heap.size = k := by simpa [Value.ownBlock] using hk
    exact ⟨by omega, by rw [hsW]; omega, fun e => by have := hvto k e; omega, fun e => by have := hve'o k e; omega⟩
  have o3' := On.mono (G := fun k => E ≤ k ∧ k < (((w9.setCell ⟨rb, 12, none⟩ (.slice (some ⟨w9.heap.size, 0, none⟩) 1 1)).setCell ⟨rb, 13, none⟩ vtd).alloc (.cells #[.int .i64 x] t1)).heap.size ∧ vt.ownBlock ≠ some k ∧ ¬ ve'.ownBlock = some k) o3 fun k hk => ⟨by omega, by rw [hsW]; omega, fun e => by have := hvto k e; omega, hk.2.2⟩
  have hbX : Below w.heap.size w (((w9.setCell ⟨rb, 12, none⟩ (.slice (some ⟨w9.heap.size, 0, none⟩) 1 1)).setCell ⟨rb, 13, none⟩ vtd).alloc (.cells #[.int .i64 x] t1)) := (((((hbel.trans (hbw8.mono z5)).trans hb9).setCell (p := ⟨rb, 12, none⟩) (by simp only; omega) _).setCell (p := ⟨rb, 13, none⟩) (by simp only; omega) vtd)).alloc (by rw [hs]; omega) _
  refine ⟨hK10, ?_, hC9.off (by rw [hsW]; omega) (s9 B (by omega) (by omega)) (s9 g (by omega) (by omega)), ?_, ?_, ?_, ?_, hbX, by rw [hsW]; omega, fun k e => by have := hve'o k e; rw [hsW]; omega⟩
  · exact (o1'.both (o2'.both o3')).imp fun w' g => ⟨_, _, _, _, _, _, _, _, _, _, _, rfl, ⟨g.1.votes, g.1.keep, g.1.quota, g.1.exh, g.1.sur⟩, RowAt.nil _, g.2.1, g.2.2⟩
  · exact hL9.step (by rw [hsW]; omega) (fun k _ hk hn => s9 k hk fun e => hn (.inr e)) (fun _ _ h => h)
  · refine hL3.step (by rw [hsW]; omega) (fun k h1 hk hn => ?_) (fun k hk hn => hGr.not (by omega) hn)
    rw [s8 k (by omega) (by omega) (by omega) (by omega) hn, hbw8.block k hk]
  · have hTw := hT.1
    exact hT.off (by rw [s8 T (by omega) (by omega) (by omega) (by omega) (fun e => by have := (hL2.lt T e).1; omega), hbw8.block T hTw]) (by rw [hsW]; omega)
  · have hRw := hR.1
    exact hR.off (by rw [s8 R (by omega) (by omega) (by omega) (by omega) (fun e => by have := (hL2.lt R e).1; omega), hbw8.block R hRw]) (by rw [hsW]; omega)

set_option maxRecDepth 100000 in
set_option maxHeartbeats 4000000 in
theorem count_bad {C : ConP} {vg vl : Value} {gs : List Grp} {lots : List Int} {w : World} (hn : C.n ≤ 1000) (hg : PileAt w vg gs) (hl : IntsAt w vl lots) (hf : fitC C gs lots ≠ 0) :
    Calls Tryz.prog 12 #[conC C, vg, vl] w fun e w' => e = .returned (.tuple #[.agg #[.int .i64 0, .int .i64 0, .int .i64 0, .int .i64 0, .slice none 0 0, .slice none 0 0], .int .i64 (fitC C gs lots)]) ∧ Below w.heap.size w w' := by
  have FT := fun wq (h : Below w.heap.size w wq) => fit_c (nm := C.nm) (p := C.p) (n := C.n) (c := C.c) (cm := C.cm) (seats := C.seats) (ranks := C.ranks) (digits := C.digits) (ties := C.ties) (over := C.over) (skip := C.skip) hn (hg.keep h) (hl.keep h)
  unfold conC
  unfold fitC at hf ⊢
  obtain ⟨nm, p, n, c, cm, seats, ranks, digits, ties, over, skip⟩ := C
  simp only at FT hf hn ⊢
  obtain ⟨z, hz⟩ : ∃ z, fitS n cm seats digits ties gs lots = z := ⟨_, rfl⟩
  rw [hz] at hf ⊢
  have FT : Hid (∀ wq, Below w.heap.size w wq → Calls Tryz.prog 22 #[.int .i64 1, conV nm p n c cm seats ranks digits ties over skip, vg, vl] wq fun e w' => e = .returned (.int .i64 z) ∧ Below wq.heap.size wq w') := Lib.hid (fun wq h => by have := FT wq h; rw [hz] at this; exact this)
  unfold conV at FT ⊢
  have hbX : Below w.heap.size w (w.alloc (.cells #[nm, .slice p n c, .int .i64 cm, .int .i64 seats, .int .i64 ranks, .int .i64 digits, .int .i64 ties, .int .i64 over, .int .i64 skip] 24)) := (Below.refl _ _).alloc (Nat.le_refl _) _
  have hbY := hbX.alloc hbX.size (.cells #[.int .i64 0, .int .i64 0, .int .i64 0, .int .i64 0, .slice none 0 0, .slice none 0 0] 37)
  have hze : (z == 0) = false := by rw [beq_eq_false_iff_ne]; exact hf
  have hze' : (z != 0) = true := by simpa using hf
  have HF := Lib.hid hbY
  clear hg hl hz
  go_enter Tryz.func12, Tryz.ntmps12
  go_wp2_with (go_at_call 22; ((with_reducible refine (FT.out _ hbY).mono ?_); rintro _ w1 ⟨rfl, hb1⟩; have KY := (Blk.new (w.alloc (.cells #[nm, .slice p n c, .int .i64 cm, .int .i64 seats, .int .i64 ranks, .int .i64 digits, .int .i64 ties, .int .i64 over, .int .i64 skip] 24)) #[.int .i64 0, .int .i64 0, .int .i64 0, .int .i64 0, .slice none 0 0, .slice none 0 0] 37).keep hb1; have c0 := KY.2.1 0; have c1 := KY.2.1 1; have c2 := KY.2.1 2; have c3 := KY.2.1 3; have c4 := KY.2.1 4; have c5 := KY.2.1 5; have f0 := KY.2.2 0; have f1 := KY.2.2 1; have f2 := KY.2.2 2; have f3 := KY.2.2 3; have f4 := KY.2.2 4; have f5 := KY.2.2 5; clear KY; simp at c0 c1 c2 c3 c4 c5 f0 f1 f2 f3 f4 f5))
  refine bodyPost_ret (v := .tuple #[.agg #[.int .i64 0, .int .i64 0, .int .i64 0, .int .i64 0, .slice none 0 0, .slice none 0 0], .int .i64 z]) (by simp [results, Tryz.results12, go_sem, c0, c1, c2, c3, c4, c5]) rfl ?_
  refine ⟨rfl, ?_⟩
  have hb := bel2' HF.out hb1
  have one : ∀ {w2 : World} (j : Nat) (v : Value), Below w.heap.size w w2 → Below w.heap.size w (w2.setCell ⟨w.heap.size + 1, j, none⟩ v) := fun {w2} j v h => h.setCell (p := ⟨w.heap.size + 1, j, none⟩) (Nat.le_succ _) v
  exact one _ _ (one _ _ (one _ _ (one _ _ (one _ _ (one _ _ hb)))))

end Go.Proofs.YtbnhgmikegdppaaGreat

/- irv.Count: the walk. -/
namespace Go.Proofs.YtbnhgmikegdppaaGreat
open Go.RowKit Go.Proofs.Kit Go.Proofs.Nums

/-- How many rounds stand in cell 4 of the transcript. -/
def roundsIn (T : Nat) (w : World) : Nat := lenV ((w.cell? ⟨T, 4, none⟩).getD (.slice none 0 0))

set_option maxRecDepth 100000 in
set_option maxHeartbeats 16000000 in
theorem count_c {C : ConP} {vg vl : Value} {gs : List Grp} {lots : List Int} {w : World} (hg : PileAt w vg gs) (hl : IntsAt w vl lots) (hok : OkC C gs lots) :
    Calls Tryz.prog 12 #[conC C, vg, vl] w fun e w' => ∃ vr vw x, e = .returned (.tuple #[.agg #[.int .i64 1, .int .i64 1, .int .i64 0, .int .i64 C.n, vr, vw], .int .i64 0]) ∧
      Made w.heap.size (fun w => SliceOf rndR 14 w vr (countS false (brkS C.ties lots) gs C.n (List.replicate C.n true) [])) w' ∧ Made w.heap.size (fun w => IntsAt w vw [x]) w' ∧ Hid (∃ r ∈ (countS false (brkS C.ties lots) gs C.n (List.replicate C.n true) []).getLast?, r.el = [x]) ∧ Below w.heap.size w w' := by
  have hn1 := hok.n1
  have hn7 := hok.n7
  have FT0 := fun wq (h : Below w.heap.size w wq) => fit_c (nm := C.nm) (p := C.p) (n := C.n) (c := C.c) (cm := C.cm) (seats := C.seats) (ranks := C.ranks) (digits := C.digits) (ties := C.ties) (over := C.over) (skip := C.skip) (by omega) (hg.keep h) (hl.keep h)
  have hz : fitS C.n C.cm C.seats C.digits C.ties gs lots = 0 := fit_iff.2 hok
  rw [hz] at FT0
  have HOK := Lib.hid hok
  have HG := Lib.hid hg
  have HL := Lib.hid hl
  have HP7 := Lib.hid hok.seven
  obtain ⟨pg, ng, cg, rfl⟩ : ∃ p n c, vg = .slice p n c := by obtain ⟨p, c, e⟩ := hg.shp; exact ⟨_, _, _, e⟩
  obtain ⟨pl, nl, cl, rfl⟩ : ∃ p n c, vl = .slice p n c := by obtain ⟨p, c, e⟩ := hl.shape; exact ⟨_, _, _, e⟩
  have NC0 := fun wq => @newcount_c C.nm C.p pg pl C.n C.c ng cg nl cl C.cm C.seats C.ranks C.digits C.ties C.over C.skip wq hn1 hn7
  unfold conC
  have FT : Hid (∀ wq, Below w.heap.size w wq → Calls Tryz.prog 22 #[.int .i64 1, conV C.nm C.p C.n C.c C.cm C.seats C.ranks C.digits C.ties C.over C.skip, .slice pg ng cg, .slice pl nl cl] wq fun e w' => e = .returned (.int .i64 0) ∧ Below wq.heap.size wq w') := Lib.hid FT0
  have NC := Lib.hid NC0
  have hbX : Below w.heap.size w (w.alloc (.cells #[C.nm, .slice C.p C.n C.c, .int .i64 C.cm, .int .i64 C.seats, .int .i64 C.ranks, .int .i64 C.digits, .int .i64 C.ties, .int .i64 C.over, .int .i64 C.skip] 24)) := (Below.refl _ _).alloc (Nat.le_refl _) _
  have hbY := hbX.alloc hbX.size (.cells #[.int .i64 0, .int .i64 0, .int .i64 0, .int .i64 0, .slice none 0 0, .slice none 0 0] 37)
  have KX := (Blk.new w #[C.nm, .slice C.p C.n C.c, .int .i64 C.cm, .int .i64 C.seats, .int .i64 C.ranks, .int .i64 C.digits, .int .i64 C.ties, .int .i64 C.over, .int .i64 C.skip] 24).alloc (.cells #[.int .i64 0, .int .i64 0, .int .i64 0, .int .i64 0, .slice none 0 0, .slice none 0 0] 37)
  have KR := Blk.new (w.alloc (.cells #[C.nm, .slice C.p C.n C.c, .int .i64 C.cm, .int .i64 C.seats, .int .i64 C.ranks, .int .i64 C.digits, .int .i64 C.ties, .int .i64 C.over, .int .i64 C.skip] 24)) #[.int .i64 0, .int .i64 0, .int .i64 0, .int .i64 0, .slice none 0 0, .slice none 0 0] 37
  rw [show (w.alloc (.cells #[C.nm, .slice C.p C.n C.c, .int .i64 C.cm, .int .i64 C.seats, .int .i64 C.ranks, .int .i64 C.digits, .int .i64 C.ties, .int .i64 C.over, .int .i64 C.skip] 24)).heap.size = w.heap.size + 1 by simp] at KR
  obtain ⟨X, hX⟩ : ∃ X, (w.alloc (.cells #[C.nm, .slice C.p C.n C.c, .int .i64 C.cm, .int .i64 C.seats, .int .i64 C.ranks, .int .i64 C.digits, .int .i64 C.ties, .int .i64 C.over, .int .i64 C.skip] 24)).alloc (.cells #[.int .i64 0, .int .i64 0, .int .i64 0, .int .i64 0, .slice none 0 0, .slice none 0 0] 37) = X := ⟨_, rfl⟩
  have hXs : X.heap.size = w.heap.size + 2 := by rw [← hX]; simp
  have HXS := Lib.hid hXs
  rw [hX] at hbY KX KR
  obtain ⟨x0, x1, x2, x3, x4, x5, x6, x7, x8⟩ := nine_cells KX
  have HKX := Lib.hid KX
  have HKR := Lib.hid KR
  unfold conV at FT NC ⊢
  clear hg hl hok KX KR hz FT0 NC0 hXs hbX
  go_enter Tryz.func12, Tryz.ntmps12
  go_wp2_with (first
    | (go_at_call 22; ((with_reducible refine (FT.out _ hbY).mono ?_); rintro _ w1 ⟨rfl, hb1⟩; have hB1 := bel2' hbY hb1; obtain ⟨y0, y1, y2, y3, y4, y5, y6, y7, y8⟩ := nine_cells (HKX.out.keep hb1)))
    | (go_at_call 23; ((with_reducible refine (NC.out _).mono ?_); rintro _ w2 ⟨B, g, rfl, hK2, hO2, hg2, hB2, hB2', hg2', hBg, hb2⟩; have hB2w := bel2' hB1 hb2; have z1 := cell_keep hb2 y1)))
  have hBT : ¬ B = w2.heap.size := by omega
  have hgT : ¬ g = w2.heap.size := by omega
  have hC2 : CntAt w2 B g C (.slice pg ng cg) (.slice pl nl cl) (.slice none 0 0) (List.replicate C.n true) := ⟨hK2, hO2, hBg⟩
  have hbW := hB2w.alloc hB2w.size (.cells #[.int .i64 1, .int .i64 1, .int .i64 0, .int .i64 C.n, .slice none 0 0, .slice none 0 0] 37)
  have KT := Blk.new w2 #[.int .i64 1, .int .i64 1, .int .i64 0, .int .i64 C.n, .slice none 0 0, .slice none 0 0] 37
  have hC3 := hC2.keep ((Below.refl w2.heap.size w2).alloc (Nat.le_refl _) (.cells #[.int .i64 1, .int .i64 1, .int .i64 0, .int .i64 C.n, .slice none 0 0, .slice none 0 0] 37))
  have KR3 := HKR.out.keep (bel2' (bel2' hb1 hb2) ((Below.refl w2.heap.size w2).alloc (Nat.le_refl _) (.cells #[.int .i64 1, .int .i64 1, .int .i64 0, .int .i64 C.n, .slice none 0 0, .slice none 0 0] 37)))
  obtain ⟨W3, hW3⟩ : ∃ W, w2.alloc (.cells #[.int .i64 1, .int .i64 1, .int .i64 0, .int .i64 C.n, .slice none 0 0, .slice none 0 0] 37) = W := ⟨_, rfl⟩
  have hW3s : W3.heap.size = w2.heap.size + 1 := by rw [← hW3]; simp
  rw [hW3] at hbW KT hC3 KR3 ⊢
  obtain ⟨T, hT⟩ : ∃ T, w2.heap.size = T := ⟨_, rfl⟩
  obtain ⟨R, hR⟩ : ∃ T, w.heap.size + 1 = T := ⟨_, rfl⟩
  rw [hT] at KT hBT hgT hW3s ⊢
  rw [hR] at KR3 ⊢
  obtain ⟨E, hE⟩ : ∃ E, W3.heap.size = E := ⟨_, rfl⟩
  have hw12 := hB1.size
  have hw1X := hb1.size
  have hXs := HXS.out
  have hw21 := hb2.size
  have hEs : w.heap.size ≤ E := by omega
  have hBE : B < E := by omega
  have hgE : g < E := by omega
  have hTE : T < E := by omega
  have hRE : R < E := by omega
  have hRT : ¬ R = T := by omega
  have hTR : ¬ T = R := by omega
  have hRB : ¬ R = B := by omega
  have hRg : ¬ R = g := by omega
  have hB0 : w.heap.size ≤ B := by omega
  have hg0 : w.heap.size ≤ g := by omega
  have hT0 : w.heap.size ≤ T := by omega
  have hR0 : w.heap.size ≤ R := by omega
  have hE3 : E ≤ W3.heap.size := by omega
  have HRn := Lib.hid hR
  clear hK2 hO2 hBg hg2 hB2 hB2' hg2' hW3s hE hT hR hW3 hw12 hw1X hXs hw21 y0 y1 y2 y3 y4 y5 y6 y7 y8 x0 x1 x2 x3 x4 x5 x6 x7 x8 z1
  go_loopw [16] (fun _ wr => ∃ m : Nat, ∃ rds : List Rnd, ∃ rem ear pt nt ct ve css csr, Blk T #[.int .i64 1, .int .i64 1, .int .i64 0, .int .i64 C.n, .slice pt nt ct, .slice none 0 0] wr ∧ Blk R #[.int .i64 0, .int .i64 0, .int .i64 0, .int .i64 0, .slice none 0 0, .slice none 0 0] wr ∧ CntAt wr B g C (.slice pg ng cg) (.slice pl nl cl) ve rem ∧ Lst2 rowR E (fun b => (Value.slice pt nt ct).ownBlock = some b) 47 1 ve wr (ear.map wholesS) css ∧ Lst2 rndR E (fun b => ve.ownBlock = some b) 53 14 (.slice pt nt ct) wr rds csr ∧ Below w.heap.size w wr ∧ E ≤ wr.heap.size ∧
      Hid (countS false (brkS C.ties lots) gs C.n (List.replicate C.n true) [] = rds ++ countS false (brkS C.ties lots) gs (C.n - m) rem ear) ∧ Hid ((aliveS rem).length + m = C.n ∧ 1 ≤ (aliveS rem).length ∧ ear.length = m ∧ rds.length = m ∧ nt = m)) (fun _ wr => 8 - roundsIn T wr)
  case atStart => exact ⟨0, [], List.replicate C.n true, [], none, 0, 0, .slice none 0 0, [], [], KT, KR3, hC3, Lst2.nil _, Lst2.nil _, hbW, hE3, Lib.hid (by rw [Nat.sub_zero]; rfl), Lib.hid ⟨by rw [alive_all_len]; rfl, by rw [alive_all_len]; exact hn1, rfl, rfl, rfl⟩⟩
  case round =>
    obtain ⟨m, rds, rem, ear, pt, nt, ct, ve, css, csr, hT, hR, hC, hL2, hL3, hbel, hEr, hCN, hIN⟩ := hrel
    obtain ⟨hi1, hi2, hi3, hi4, hi5⟩ := hIN.out
    subst hi5
    have hrl := hC.len
    have hk11 := hC.cells.2.2.1
    have hpl := HOK.out.pile
    have hvr := votes_rng (gs := gs) (rem := rem) hpl
    have hrr := rest_rng (gs := gs) (rem := rem) hpl
    have hvl : (votesS gs rem).length = C.n := by rw [votes_len, hrl]
    obtain ⟨al, hal⟩ : ∃ n, (aliveS rem).length = n := ⟨_, rfl⟩
    have HAL := Lib.hid hal
    have HVL := Lib.hid hvl
    obtain ⟨q, hq⟩ : ∃ q, quotaS gs rem = q := ⟨_, rfl⟩
    obtain ⟨rs, hrs⟩ : ∃ q, restS gs rem = q := ⟨_, rfl⟩
    have hne : aliveS rem ≠ [] := fun e => by rw [e] at hi2; simp at hi2
    have FI : Hid (Calls Tryz.prog 24 #[.slice pg ng cg, .slice (some ⟨g, 0, none⟩) C.n C.n] wr fun e w' => ∃ p c, e = .returned (.tuple #[.slice p C.n c, .int .i64 rs]) ∧ IntsAt w' (.slice p C.n c) (votesS gs rem) ∧ Fresh wr.heap.size (.slice p C.n c) ∧ Below wr.heap.size wr w') := Lib.hid (by
      refine (first_c (HG.out.keep hbel) hC.flags HP7.out (by rw [hrl]; exact hn1) (by rw [hrl]; exact hn7)).mono ?_
      rintro e w' ⟨v', rfl, g1, g2, g3⟩
      obtain ⟨p, c, rfl⟩ := g1.shape
      rw [hvl] at g1 g2 ⊢
      rw [hrs]
      exact ⟨p, c, rfl, g1, g2, g3⟩)
    have RO : Hid (∀ wq p c, Below wr.heap.size wr wq → IntsAt wq (.slice p C.n c) (votesS gs rem) → Calls Tryz.prog 25 #[.pointer (some ⟨B, 0, none⟩), .slice p C.n c, .int .i64 rs] wq fun e w' => ∃ ax ay az dx dy dz qx qy qz rx ry rz ex ey ez fx fy fz sx sy sz tx ty tz, e = .returned (.tuple #[.agg #[.slice ax ay az, .slice dx dy dz, .bool false, .slice qx qy qz, .slice rx ry rz, .bool false, .slice ex ey ez, .slice fx fy fz, .bool false, .slice sx sy sz, .slice tx ty tz, .slice none 0 0, .slice none 0 0, .slice none 0 0], .int .i64 q]) ∧
        Made wq.heap.size (fun w => RndH w (.slice ax ay az) (.slice dx dy dz) (.slice qx qy qz) (.slice rx ry rz) (.slice ex ey ez) (.slice fx fy fz) (.slice sx sy sz) (.slice tx ty tz) (mkR gs rem [] [] [])) w' ∧ Below wq.heap.size wq w') := Lib.hid (fun wq p c h hv => by
      refine (round_c (hC.keep h) hv hvr hrr.1 hrr.2 hrs.symm hn7).mono ?_
      rintro e w' ⟨_, _, _, _, _, _, _, _, rfl, g1, ⟨⟨ax, ay, az, rfl⟩, ⟨dx, dy, dz, rfl⟩, ⟨qx, qy, qz, rfl⟩, ⟨rx, ry, rz, rfl⟩, ⟨ex, ey, ez, rfl⟩, ⟨fx, fy, fz, rfl⟩, ⟨sx, sy, sz, rfl⟩, ⟨tx, ty, tz, rfl⟩⟩, g3⟩
      rw [hq]
      exact ⟨ax, ay, az, dx, dy, dz, qx, qy, qz, rx, ry, rz, ex, ey, ez, fx, fy, fz, sx, sy, sz, tx, ty, tz, rfl, g1, g3⟩)
    have LE : Hid (∀ wq, Below wr.heap.size wr wq → Calls Tryz.prog 26 #[.pointer (some ⟨B, 0, none⟩)] wq fun e w' => ∃ p c, e = .returned (.slice p al c) ∧ IntsAt w' (.slice p al c) (aliveS rem) ∧ Fresh wq.heap.size (.slice p al c) ∧ Below wq.heap.size wq w') := Lib.hid (fun wq h => by
      refine (left_n (hC.keep h) hn7).mono ?_
      rintro e w' ⟨v', rfl, g1, g2, g3⟩
      obtain ⟨p, c, rfl⟩ := g1.shape
      rw [hal] at g1 g2 ⊢
      exact ⟨p, c, rfl, g1, g2, g3⟩)
    have IX : Hid (∀ z wq p c pv cv K1 K2, indexF (overQ (votesS gs rem) q) (aliveS rem) = z → Below wr.heap.size wr wq → IntsAt wq (.slice p al c) (aliveS rem) → wq.cell? ⟨K1, 0, none⟩ = some (.slice pv C.n cv) → wq.cell? ⟨K2, 0, none⟩ = some (.int .i64 q) → IntsAt wq (.slice pv C.n cv) (votesS gs rem) →
        Calls Tryz.prog 27 #[.slice p al c, .func (.func 28) #[] #[.pointer (some ⟨K1, 0, none⟩), .pointer (some ⟨K2, 0, none⟩)]] wq fun e w' => e = .returned (.int .i64 z) ∧ Below wq.heap.size wq w') := Lib.hid (fun z wq p c pv cv K1 K2 hz h g1 g2 g3 g4 => by
      rw [← hz]
      exact indexwin_c g1 (fun x hx => by rw [hvl, ← hrl]; exact remB_lt (mem_alive.1 hx)) g2 g3 g4)
    obtain ⟨j, hj⟩ : ∃ j, C.n - nt = j + 1 := ⟨C.n - nt - 1, by omega⟩
    have hrdl := hi4
    rcases win_cases gs rem hi2 with ⟨h1, x, hx, hw⟩ | ⟨h1, ix, x, hix, hz, hx, hw⟩ | ⟨h1, hz, hw⟩
    · have hal1 : al = 1 := by omega
      obtain ⟨z, hz⟩ : ∃ z, indexF (overQ (votesS gs rem) q) (aliveS rem) = z := ⟨_, rfl⟩
      subst hal1
      have HIX : Hid (0 < 1) := Lib.hid (by omega)
      have HX := Lib.hid hx
      have HW := Lib.hid hw
      have HN1 : Hid ((rds.length + 1) * 288 ≤ 140737488355328) := Lib.hid (by omega)
      have HN2 : Hid (rds.length + 1 ≤ 9223372036854775807) := Lib.hid (by omega)
      clear hx hw hi1 hi2 hi3 hi4
      go_wp2_with (first
        | (go_at_call 24; ((with_reducible refine FI.out.mono ?_); rintro _ w3 ⟨p4, c4, rfl, h4, hf4, hb3⟩; have hb4 : Below wr.heap.size wr (w3.alloc (.cells #[.slice p4 C.n c4] 26)) := hb3.alloc hb3.size _; have h4' := h4.keep ((Below.refl w3.heap.size w3).alloc (Nat.le_refl _) (.cells #[.slice p4 C.n c4] 26)); have k4 : (w3.alloc (.cells #[.slice p4 C.n c4] 26)).cell? ⟨w3.heap.size, 0, none⟩ = some (.slice p4 C.n c4) := (Blk.new w3 #[.slice p4 C.n c4] 26).2.1 0; obtain ⟨W4, hW4⟩ : ∃ W, w3.alloc (.cells #[.slice p4 C.n c4] 26) = W := ⟨_, rfl⟩; rw [hW4] at hb4 h4' k4; obtain ⟨K1, hK1⟩ : ∃ K, w3.heap.size = K := ⟨_, rfl⟩; rw [hK1] at k4; clear h4))
        | (go_at_call 25; ((with_reducible refine (RO.out _ _ _ hb4 h4').mono ?_); rintro _ w5 ⟨ax, ay, az, dx, dy, dz, qx, qy, qz, rx, ry, rz, ex, ey, ez, fx, fy, fz, sx, sy, sz, tx, ty, tz, rfl, hM5, hb5⟩; have HM5 := Lib.hid hM5; clear hM5; obtain ⟨rb, hrb⟩ : ∃ K, w5.heap.size = K := ⟨_, rfl⟩; obtain ⟨W6, hW6⟩ : ∃ W, (w5.alloc (.cells #[.slice ax ay az, .slice dx dy dz, .bool false, .slice qx qy qz, .slice rx ry rz, .bool false, .slice ex ey ez, .slice fx fy fz, .bool false, .slice sx sy sz, .slice tx ty tz, .slice none 0 0, .slice none 0 0, .slice none 0 0] 53)).alloc (.cells #[.int .i64 q] 3) = W := ⟨_, rfl⟩; obtain ⟨hb6, KB6, kq6, kv6, h46, hs6, hb56, hrbw⟩ := cnt_a2 hb4 hb5 h4' k4 hrb hW6; have KB6 := Lib.hid KB6))
        | (go_at_call 26; ((with_reducible refine (LE.out _ hb6).mono ?_); rintro _ w7 ⟨p7, c7, rfl, h7, hf7, hb7⟩; have hb67 := bel2' hb6 hb7; have kq7 := cell_keep hb7 kq6; have kv7 := cell_keep hb7 kv6; have h47 := h46.keep hb7))
        | (go_at_call 27; ((with_reducible refine (IX.out _ _ _ _ _ _ _ _ hz hb67 h7 kv7 kq7 h47).mono ?_); rintro _ w8 ⟨rfl, hb8⟩; obtain ⟨b7, o7, hp7, _, _, lc7⟩ := h7.cellAt 0 (by rw [HAL.out]; exact HIX.out); subst hp7; rw [HX.out] at lc7; simp only [Nat.add_zero] at lc7; have lc8 := cell_keep hb8 lc7; have hb68 := bel2' hb7 hb8; have hbw8 := bel2' hb6 hb68; have hb58 := bel2' hb56 hb68; have K8 := KB6.out.keep hb68; obtain ⟨c0, c1, c2, c3, c4', c5, c6, c7', c8, c9, c10, c11, c12, c13⟩ := cells14 K8; obtain ⟨f0, f1, f2, f3, f4, f5, f6, f7, f8, f9, f10, f11, f12, f13⟩ := frees14 K8; have hrb8 := K8.1; obtain ⟨W9, hW9⟩ : ∃ W, (w8.setCell ⟨rb, 11, none⟩ (.slice (some ⟨w8.heap.size, 0, none⟩) 1 1)).alloc (.cells #[.int .i64 x] 3) = W := ⟨_, rfl⟩; obtain ⟨hb9, K9, ho9⟩ := cnt_win9 hbw8 hb4 hb58 hrb hrbw HM5.out K8 rfl rfl hW9; have K9h := Lib.hid K9; obtain ⟨d0, d1, d2, d3, d4, d5, d6, d7, d8, d9, d10, d11, d12, d13⟩ := cells14 K9; have KT9 := Lib.hid (hT.keep hb9); have KR9 := Lib.hid (hR.keep hb9); have t4 := KT9.out.2.1 4; simp only [List.getElem?_toArray, List.getElem?_cons_zero, List.getElem?_cons_succ] at t4; have HL9 := Lib.hid (hL3.keep hb9); have HE9 := Lib.hid (Nat.le_trans hEr hb9.size); have HEL := Lib.hid (cnt_el hL2 hL3 hEr ho9); have HO9 := Lib.hid (cnt_ob hL2 hb9.size); have lc9 := cnt_lc (hf7 b7 rfl) hs6 lc8 hW9; have hb7s := hf7 b7 rfl; clear K8 K9 ho9))
        | (at_builtin; go_must (refine append_lst2 erRd rfl rfl HL9.out rfl rfl rfl (by simp [Value.oneCell']) HN1.out HN2.out HE9.out HO9.out HEL.out ?_); intro v10 w10 hL10 hb10 hg10 hG10; obtain ⟨pz, nz, cz, rfl⟩ := own_sl hL10.own; have HL10 := Lib.hid hL10; have HB10 := Lib.hid hb10; have KT10 := KT9.out.off (hb10.block T hTE) hb10.size; have KR10 := KR9.out.off (hb10.block R hRE) hb10.size; obtain ⟨t0, t1, t2, t3, t4', t5⟩ := cells6 KT10; obtain ⟨tf0, tf1, tf2, tf3, tf4, tf5⟩ := frees6 KT10; obtain ⟨r0, r1, r2, r3, r4, r5⟩ := cells6 KR10; obtain ⟨rf0, rf1, rf2, rf3, rf4, rf5⟩ := frees6 KR10; have lc10 := (hg10.cell_far ⟨b7, o7, none⟩ (World.block_lt_of_cell? _ _ lc9) (by intro e; have := (HL9.out.lt b7 e.symm).2; have := hL3.lt b7 e.symm; omega)).trans lc9; have hTz := KT10.1; have hRz := KR10.1))
      refine bodyPost_ret (v := .tuple #[.agg #[.int .i64 1, .int .i64 1, .int .i64 0, .int .i64 C.n, .slice pz nz cz, .slice (some ⟨w10.heap.size, 0, none⟩) 1 1], .int .i64 0]) (by simp [results, Tryz.results12, go_sem, r0, r1, r2, r3, r4, r5, hRz]) rfl ?_
      have hcs := hCN.out
      rw [hj, count_win HW.out] at hcs
      obtain ⟨g1, g2, g3⟩ := cnt_fin (u4 := .slice pz nz cz) (u5 := .slice (some ⟨w10.heap.size, 0, none⟩) 1 1) (y0 := .int .i64 1) (y1 := .int .i64 1) (y2 := .int .i64 0) (y3 := .int .i64 C.n) (y4 := .slice pz nz cz) (y5 := .slice (some ⟨w10.heap.size, 0, none⟩) 1 1) (x := x) (t1 := 3) HL10.out hTE hRE ((hbel.trans (hb9.mono hbel.size)).trans (HB10.out.mono hEs)) hT0 hR0
      exact ⟨_, _, rfl, by rw [hcs]; exact g1, _, g2, Lib.hid ⟨mkR gs rem [x] [] [], by rw [hcs]; simp, rfl⟩, g3⟩
    · have hal1 : ((al : Int) == 1) = false := by rw [beq_eq_false_iff_ne]; omega
      rw [hq] at hz
      rw [hal] at hix
      have HIX := Lib.hid hix
      have ixz : (0 : Int) ≤ (ix : Int) := by omega
      have ixl : (ix : Int) < (al : Int) := by omega
      have HX := Lib.hid hx
      have HW := Lib.hid hw
      have HN1 : Hid ((rds.length + 1) * 288 ≤ 140737488355328) := Lib.hid (by omega)
      have HN2 : Hid (rds.length + 1 ≤ 9223372036854775807) := Lib.hid (by omega)
      clear hx hw hi1 hi2 hi3 hi4
      go_wp2_with (first
        | (go_at_call 24; ((with_reducible refine FI.out.mono ?_); rintro _ w3 ⟨p4, c4, rfl, h4, hf4, hb3⟩; have hb4 : Below wr.heap.size wr (w3.alloc (.cells #[.slice p4 C.n c4] 26)) := hb3.alloc hb3.size _; have h4' := h4.keep ((Below.refl w3.heap.size w3).alloc (Nat.le_refl _) (.cells #[.slice p4 C.n c4] 26)); have k4 : (w3.alloc (.cells #[.slice p4 C.n c4] 26)).cell? ⟨w3.heap.size, 0, none⟩ = some (.slice p4 C.n c4) := (Blk.new w3 #[.slice p4 C.n c4] 26).2.1 0; obtain ⟨W4, hW4⟩ : ∃ W, w3.alloc (.cells #[.slice p4 C.n c4] 26) = W := ⟨_, rfl⟩; rw [hW4] at hb4 h4' k4; obtain ⟨K1, hK1⟩ : ∃ K, w3.heap.size = K := ⟨_, rfl⟩; rw [hK1] at k4; clear h4))
        | (go_at_call 25; ((with_reducible refine (RO.out _ _ _ hb4 h4').mono ?_); rintro _ w5 ⟨ax, ay, az, dx, dy, dz, qx, qy, qz, rx, ry, rz, ex, ey, ez, fx, fy, fz, sx, sy, sz, tx, ty, tz, rfl, hM5, hb5⟩; have HM5 := Lib.hid hM5; clear hM5; obtain ⟨rb, hrb⟩ : ∃ K, w5.heap.size = K := ⟨_, rfl⟩; obtain ⟨W6, hW6⟩ : ∃ W, (w5.alloc (.cells #[.slice ax ay az, .slice dx dy dz, .bool false, .slice qx qy qz, .slice rx ry rz, .bool false, .slice ex ey ez, .slice fx fy fz, .bool false, .slice sx sy sz, .slice tx ty tz, .slice none 0 0, .slice none 0 0, .slice none 0 0] 53)).alloc (.cells #[.int .i64 q] 3) = W := ⟨_, rfl⟩; obtain ⟨hb6, KB6, kq6, kv6, h46, hs6, hb56, hrbw⟩ := cnt_a2 hb4 hb5 h4' k4 hrb hW6; have KB6 := Lib.hid KB6))
        | (go_at_call 26; ((with_reducible refine (LE.out _ hb6).mono ?_); rintro _ w7 ⟨p7, c7, rfl, h7, hf7, hb7⟩; have hb67 := bel2' hb6 hb7; have kq7 := cell_keep hb7 kq6; have kv7 := cell_keep hb7 kv6; have h47 := h46.keep hb7))
        | (go_at_call 27; ((with_reducible refine (IX.out _ _ _ _ _ _ _ _ hz hb67 h7 kv7 kq7 h47).mono ?_); rintro _ w8 ⟨rfl, hb8⟩; obtain ⟨b7, o7, hp7, _, _, lc7⟩ := h7.cellAt ix (by rw [HAL.out]; exact HIX.out); subst hp7; rw [HX.out] at lc7; have lc8 := cell_keep hb8 lc7; have hb68 := bel2' hb7 hb8; have hbw8 := bel2' hb6 hb68; have hb58 := bel2' hb56 hb68; have K8 := KB6.out.keep hb68; obtain ⟨c0, c1, c2, c3, c4', c5, c6, c7', c8, c9, c10, c11, c12, c13⟩ := cells14 K8; obtain ⟨f0, f1, f2, f3, f4, f5, f6, f7, f8, f9, f10, f11, f12, f13⟩ := frees14 K8; have hrb8 := K8.1; obtain ⟨W9, hW9⟩ : ∃ W, (w8.setCell ⟨rb, 11, none⟩ (.slice (some ⟨w8.heap.size, 0, none⟩) 1 1)).alloc (.cells #[.int .i64 x] 3) = W := ⟨_, rfl⟩; obtain ⟨hb9, K9, ho9⟩ := cnt_win9 hbw8 hb4 hb58 hrb hrbw HM5.out K8 rfl rfl hW9; have K9h := Lib.hid K9; obtain ⟨d0, d1, d2, d3, d4, d5, d6, d7, d8, d9, d10, d11, d12, d13⟩ := cells14 K9; have KT9 := Lib.hid (hT.keep hb9); have KR9 := Lib.hid (hR.keep hb9); have t4 := KT9.out.2.1 4; simp only [List.getElem?_toArray, List.getElem?_cons_zero, List.getElem?_cons_succ] at t4; have HL9 := Lib.hid (hL3.keep hb9); have HE9 := Lib.hid (Nat.le_trans hEr hb9.size); have HEL := Lib.hid (cnt_el hL2 hL3 hEr ho9); have HO9 := Lib.hid (cnt_ob hL2 hb9.size); have lc9 := cnt_lc (hf7 b7 rfl) hs6 lc8 hW9; have hb7s := hf7 b7 rfl; clear K8 K9 ho9))
        | (at_builtin; go_must (refine append_lst2 erRd rfl rfl HL9.out rfl rfl rfl (by simp [Value.oneCell']) HN1.out HN2.out HE9.out HO9.out HEL.out ?_); intro v10 w10 hL10 hb10 hg10 hG10; obtain ⟨pz, nz, cz, rfl⟩ := own_sl hL10.own; have HL10 := Lib.hid hL10; have HB10 := Lib.hid hb10; have KT10 := KT9.out.off (hb10.block T hTE) hb10.size; have KR10 := KR9.out.off (hb10.block R hRE) hb10.size; obtain ⟨t0, t1, t2, t3, t4', t5⟩ := cells6 KT10; obtain ⟨tf0, tf1, tf2, tf3, tf4, tf5⟩ := frees6 KT10; obtain ⟨r0, r1, r2, r3, r4, r5⟩ := cells6 KR10; obtain ⟨rf0, rf1, rf2, rf3, rf4, rf5⟩ := frees6 KR10; have lc10 := (hg10.cell_far ⟨b7, o7 + ix, none⟩ (World.block_lt_of_cell? _ _ lc9) (by intro e; have := (HL9.out.lt b7 e.symm).2; have := hL3.lt b7 e.symm; omega)).trans lc9; have hTz := KT10.1; have hRz := KR10.1))
      refine bodyPost_ret (v := .tuple #[.agg #[.int .i64 1, .int .i64 1, .int .i64 0, .int .i64 C.n, .slice pz nz cz, .slice (some ⟨w10.heap.size, 0, none⟩) 1 1], .int .i64 0]) (by simp [results, Tryz.results12, go_sem, r0, r1, r2, r3, r4, r5, hRz]) rfl ?_
      have hcs := hCN.out
      rw [hj, count_win HW.out] at hcs
      obtain ⟨g1, g2, g3⟩ := cnt_fin (u4 := .slice pz nz cz) (u5 := .slice (some ⟨w10.heap.size, 0, none⟩) 1 1) (y0 := .int .i64 1) (y1 := .int .i64 1) (y2 := .int .i64 0) (y3 := .int .i64 C.n) (y4 := .slice pz nz cz) (y5 := .slice (some ⟨w10.heap.size, 0, none⟩) 1 1) (x := x) (t1 := 3) HL10.out hTE hRE ((hbel.trans (hb9.mono hbel.size)).trans (HB10.out.mono hEs)) hT0 hR0
      exact ⟨_, _, rfl, by rw [hcs]; exact g1, _, g2, Lib.hid ⟨mkR gs rem [x] [] [], by rw [hcs]; simp, rfl⟩, g3⟩
    · have hal1 : ((al : Int) == 1) = false := by rw [beq_eq_false_iff_ne]; omega
      rw [hq] at hz
      have HW := Lib.hid hw
      have hex := excl_low (gs := gs) (ear := ear) (by rw [hrl]; exact HOK.out.brk) hne
      have hxr := remB_lt (mem_alive.1 (low_sub hex))
      have hless := alive_less (low_sub hex)
      obtain ⟨x, hx⟩ : ∃ x, exclS (brkS C.ties lots) gs rem ear = x := ⟨_, rfl⟩
      have hcs := hCN.out
      rw [hj, count_next hw, hx] at hcs
      rw [hx] at hless
      have HC2 : Hid (countS false (brkS C.ties lots) gs C.n (List.replicate C.n true) [] = (rds ++ [mkR gs rem [] [x] (tiedW gs rem)]) ++ countS false (brkS C.ties lots) gs (C.n - (nt + 1)) (rem.set x.toNat false) (ear ++ [votesS gs rem])) := Lib.hid (by
        rw [hcs, show C.n - (nt + 1) = j by omega, List.append_assoc]
        rfl)
      have HIN2 : Hid ((aliveS (rem.set x.toNat false)).length + (nt + 1) = C.n ∧ 1 ≤ (aliveS (rem.set x.toNat false)).length ∧ (ear ++ [votesS gs rem]).length = nt + 1 ∧ (rds ++ [mkR gs rem [] [x] (tiedW gs rem)]).length = nt + 1) := Lib.hid ⟨by omega, by omega, by rw [List.length_append, hi3]; rfl, by rw [List.length_append, hi4]; rfl⟩
      have HN1 : Hid ((rds.length + 1) * 288 ≤ 140737488355328) := Lib.hid (by omega)
      have HN2 : Hid (rds.length + 1 ≤ 9223372036854775807) := Lib.hid (by omega)
      have EX : Hid (∀ wq p c rb, Below wr.heap.size wr wq → IntsAt wq (.slice p C.n c) (votesS gs rem) → Fresh wr.heap.size (.slice p C.n c) → wr.heap.size ≤ rb → rb < wq.heap.size → Calls Tryz.prog 29 #[.pointer (some ⟨B, 0, none⟩), .slice p C.n c] wq fun e w' => ∃ px nx cx ve' css', e = .returned (.tuple #[.int .i64 x, .slice px nx cx]) ∧
          Hid (On (fun b => wq.heap.size ≤ b ∧ b < w'.heap.size ∧ ve'.ownBlock ≠ some b) (fun w => IntsAt w (.slice px nx cx) (tiedW gs rem)) w') ∧ CntAt w' B g C (.slice pg ng cg) (.slice pl nl cl) ve' (rem.set x.toNat false) ∧
          Lst2 rowR E (fun b => (Value.slice pt nt ct).ownBlock = some b ∨ b = rb) 47 1 ve' w' ((ear ++ [votesS gs rem]).map wholesS) css' ∧ Grew wq ve.ownBlock ve'.ownBlock ∧
          (wq.heap.size ≤ w'.heap.size ∧ ∀ b, b < wq.heap.size → b ≠ B → b ≠ g → ve.ownBlock ≠ some b → w'.heap[b]? = wq.heap[b]?) ∧ Below w.heap.size wq w') := Lib.hid (fun wq p c rb h hv hf hr1 hr2 => by
        have hLq : Lst2 rowR E (fun b => (Value.slice pt nt ct).ownBlock = some b ∨ b = rb) 47 1 ve wq (ear.map wholesS) css := hL2.step h.size (fun b _ hlt _ => h.block b hlt) (fun b hlt hn e => by
          rcases e with e | e
          · exact hn e
          · omega)
        refine (exclude_c (base := w.heap.size) (hC.keep h) hLq hB0 hg0 hBE hgE (Nat.le_trans hEr h.size) (fun b e => by
          rcases e with e | e
          · exact Nat.lt_of_lt_of_le (hL3.lt b e).2 h.size
          · omega) (HL.out.keep (bel2' hbel h)) hv (fun b e => by have := hf b e; omega) (fun y hy => by have := hvr y hy; omega) hn7 (by omega) hne HOK.out.brk).mono ?_
        rintro e w' ⟨vt, ve', css', rfl, q0, q1, q2, q3, q4, q6⟩
        rw [hx] at q1 ⊢
        obtain ⟨px, cx, rfl⟩ := IntsAt.shape q0.now
        exact ⟨px, _, cx, ve', css', rfl, Lib.hid q0, q1, by rw [List.map_append]; exact q2, q3, q4, q6⟩)
      clear hw hx hcs hex hless hxr hne
      go_wp2_with (first
        | (go_at_call 24; ((with_reducible refine FI.out.mono ?_); rintro _ w3 ⟨p4, c4, rfl, h4, hf4, hb3⟩; have hb4 : Below wr.heap.size wr (w3.alloc (.cells #[.slice p4 C.n c4] 26)) := hb3.alloc hb3.size _; have h4' := h4.keep ((Below.refl w3.heap.size w3).alloc (Nat.le_refl _) (.cells #[.slice p4 C.n c4] 26)); have k4 : (w3.alloc (.cells #[.slice p4 C.n c4] 26)).cell? ⟨w3.heap.size, 0, none⟩ = some (.slice p4 C.n c4) := (Blk.new w3 #[.slice p4 C.n c4] 26).2.1 0; obtain ⟨W4, hW4⟩ : ∃ W, w3.alloc (.cells #[.slice p4 C.n c4] 26) = W := ⟨_, rfl⟩; rw [hW4] at hb4 h4' k4; obtain ⟨K1, hK1⟩ : ∃ K, w3.heap.size = K := ⟨_, rfl⟩; rw [hK1] at k4; clear h4))
        | (go_at_call 25; ((with_reducible refine (RO.out _ _ _ hb4 h4').mono ?_); rintro _ w5 ⟨ax, ay, az, dx, dy, dz, qx, qy, qz, rx, ry, rz, ex, ey, ez, fx, fy, fz, sx, sy, sz, tx, ty, tz, rfl, hM5, hb5⟩; have HM5 := Lib.hid hM5; clear hM5; obtain ⟨rb, hrb⟩ : ∃ K, w5.heap.size = K := ⟨_, rfl⟩; obtain ⟨W6, hW6⟩ : ∃ W, (w5.alloc (.cells #[.slice ax ay az, .slice dx dy dz, .bool false, .slice qx qy qz, .slice rx ry rz, .bool false, .slice ex ey ez, .slice fx fy fz, .bool false, .slice sx sy sz, .slice tx ty tz, .slice none 0 0, .slice none 0 0, .slice none 0 0] 53)).alloc (.cells #[.int .i64 q] 3) = W := ⟨_, rfl⟩; obtain ⟨hb6, KB6, kq6, kv6, h46, hs6, hb56, hrbw⟩ := cnt_a2 hb4 hb5 h4' k4 hrb hW6; have KB6 := Lib.hid KB6))
        | (go_at_call 26; ((with_reducible refine (LE.out _ hb6).mono ?_); rintro _ w7 ⟨p7, c7, rfl, h7, hf7, hb7⟩; have hb67 := bel2' hb6 hb7; have kq7 := cell_keep hb7 kq6; have kv7 := cell_keep hb7 kv6; have h47 := h46.keep hb7))
        | (go_at_call 27; ((with_reducible refine (IX.out _ _ _ _ _ _ _ _ hz hb67 h7 kv7 kq7 h47).mono ?_); rintro _ w8 ⟨rfl, hb8⟩; have hb68 := bel2' hb7 hb8; have hbw8 := bel2' hb6 hb68; have hb58 := bel2' hb56 hb68; have K8 := Lib.hid (KB6.out.keep hb68); have kv8 := cell_keep hb8 kv7; have h48 := h47.keep hb8; have hrb8 := K8.out.1; have hf8 := hf4))
        | (go_at_call 29; ((with_reducible refine (EX.out _ _ _ _ hbw8 h48 hf8 hrbw hrb8).mono ?_); rintro _ w9 ⟨px, nx, cx, ve', css', rfl, hTd, hC9, hL9, hGr, ⟨hs9, hfr9⟩, hb9⟩; have K9 := K8.out.off (hfr9 rb hrb8 (by omega) (by omega) (fun e => by have := (hL2.lt rb e).2; omega)) hs9; obtain ⟨c0, c1, c2, c3, c4', c5, c6, c7', c8, c9, c10, c11, c12, c13⟩ := cells14 K9; obtain ⟨f0, f1, f2, f3, f4, f5, f6, f7, f8, f9, f10, f11, f12, f13⟩ := frees14 K9; have hrb9 := K9.1; obtain ⟨W10, hW10⟩ : ∃ W, ((w9.setCell ⟨rb, 12, none⟩ (.slice (some ⟨w9.heap.size, 0, none⟩) 1 1)).setCell ⟨rb, 13, none⟩ (.slice px nx cx)).alloc (.cells #[.int .i64 x] 3) = W := ⟨_, rfl⟩; obtain ⟨K10, hE10, hC10, hL10, hM10, hT10, hR10, hb10, hs10, ho10⟩ := cnt_x10 hbel hEr hbw8 hb4 hb58 hrb hrbw HM5.out K8.out hL2 hL3 hTd.out hC9 hL9 hGr hs9 hfr9 hb9 hBE hgE hTE hRE hBT hgT hRB hRg hT hR hW10; obtain ⟨d0, d1, d2, d3, d4, d5, d6, d7, d8, d9, d10, d11, d12, d13⟩ := cells14 K10; have t4 := hT10.2.1 4; simp only [List.getElem?_toArray, List.getElem?_cons_zero, List.getElem?_cons_succ] at t4; have HE10 := Lib.hid hE10; have HC10 := Lib.hid hC10; have HL10 := Lib.hid hL10; have HM10 := Lib.hid hM10; have HT10 := Lib.hid hT10; have HR10 := Lib.hid hR10; have HB10 := Lib.hid hb10; have HS10 := Lib.hid (Nat.le_trans hEr hs10); have HO10 := Lib.hid ho10; clear K9 K10 hE10 hC10 hL10 hM10 hT10 hR10 hTd hC9 hL9 ho10))
        | (at_builtin; go_must (refine append_lst2 erRd rfl rfl HM10.out rfl rfl rfl (by simp [Value.oneCell']) HN1.out HN2.out HS10.out HO10.out HE10.out ?_); intro v11 w11 hL11 hb11 hg11 hG11; obtain ⟨pz, cz, rfl, _, _⟩ := own_shp hL11.own; rw [HIN2.out.2.2.2] at hL11 hG11; have HL11 := Lib.hid hL11; have HB11 := Lib.hid hb11; have KT11 := HT10.out.off (hb11.block T hTE) hb11.size; have t11 := KT11.2.1 4; simp only [List.getElem?_toArray, List.getElem?_cons_zero, List.getElem?_cons_succ] at t11; have tf11 := KT11.2.2 4; have KT11 := Lib.hid KT11))
      go_roundw
      case rel =>
        have A1 := blk_put KT11.out (o := 4) (by simp) (.slice pz (nt + 1) cz)
        have A2 := blk_other (HR10.out.off (hb11.block R hRE) hb11.size) hRT 4 (.slice pz (nt + 1) cz)
        have A3 := (HC10.out.off hb11.size (hb11.block B hBE) (hb11.block g hgE)).off (w' := w11.setCell ⟨T, 4, none⟩ (.slice pz (nt + 1) cz)) (by rw [World.size_setCell]; exact Nat.le_refl _) (Below.heap_setCell _ _ _ _ (by exact hBT)) (Below.heap_setCell _ _ _ _ (by exact hgT))
        have A4 := (HL10.out.step (o' := fun b => (Value.slice pz (nt + 1) cz).ownBlock = some b) hg11.size (fun b _ hlt hn => hg11.block b hlt (fun e => hn (.inl e.symm))) (fun b hlt hn => Grew.not hG11 hlt (fun e => hn (.inl e)))).put (j := 4) hTE (.slice pz (nt + 1) cz)
        have A5 := HL11.out.put (j := 4) hTE (.slice pz (nt + 1) cz)
        have A6 := (HB10.out.trans (hb11.mono hEs)).setCell (p := ⟨T, 4, none⟩) hT0 (.slice pz (nt + 1) cz)
        have A7 : E ≤ (w11.setCell ⟨T, 4, none⟩ (.slice pz (nt + 1) cz)).heap.size := by rw [World.size_setCell]; exact Nat.le_trans HS10.out hb11.size
        exact ⟨nt + 1, _, _, _, pz, nt + 1, cz, ve', css', _, A1, A2, A3, A4, A5, A6, A7, HC2, Lib.hid ⟨HIN2.out.1, HIN2.out.2.1, HIN2.out.2.2.1, HIN2.out.2.2.2, rfl⟩⟩
      case measure =>
        have m1 : roundsIn T wr = nt := by
          have := hT.2.1 4
          unfold roundsIn
          rw [this]
          rfl
        have m2 : roundsIn T (w11.setCell ⟨T, 4, none⟩ (.slice pz (nt + 1) cz)) = nt + 1 := by
          unfold roundsIn
          rw [cell_same t11]
          rfl
        omega

end Go.Proofs.YtbnhgmikegdppaaGreat

/- The sanity check Awake: plain values. -/
namespace Go.Proofs.Nums

def awB : List (List Int) := [[0, 1], [0, 1], [1], [1], [2, 1]]
def awG : List Grp := makeS awB
theorem awG_wt7 : wt (setB 3 7) awG 0 = 2 ∧ wt (setB 3 7) awG 1 = 2 ∧ wt (setB 3 7) awG 2 = 1 := by decide +kernel
theorem awG_wt3 : wt (setB 3 3) awG 0 = 2 ∧ wt (setB 3 3) awG 1 = 3 := by decide +kernel
theorem awG_count : ((countS false (brkS 1 [0, 1, 2]) awG 3 (List.replicate 3 true) []).map fun r => r.el) = [[], [1]] := by decide +kernel
theorem awG_order : orderS (brkS 1 [0, 1, 2]) awG 3 (List.replicate 3 true) [] = [2, 0, 1] := by decide +kernel
theorem awB_bal : ∀ b ∈ awB, BalP 3 b := by decide +kernel
theorem awG_pile : PileP 3 awG := make_pile awB_bal (by decide)
theorem aw_lots : Lots 3 [0, 1, 2] := ⟨by decide +kernel, rfl⟩
theorem aw_brk : Brk 3 (brkS 1 [0, 1, 2]) := brk_in aw_lots (by omega) (by omega) (by omega) (by omega)
theorem aw_rch {R : Int → Bool} (h : Rch 3 awG R) : R = setB 3 7 ∨ R = setB 3 3 ∨ R = setB 3 2 := by
  induction h with
  | full => exact .inl (setB_full (n := 3) (by omega)).symm
  | @step R x d _ hl hd hx ih =>
    have hx0 : R x = true := hl.1
    rcases ih with rfl | rfl | rfl
    · rw [setB_at, decide_eq_true_iff] at hx0
      have : x = 0 ∨ x = 1 ∨ x = 2 := by omega
      have h2 := hl.2 2 (by decide)
      have hw := awG_wt7
      rcases this with rfl | rfl | rfl
      · omega
      · omega
      · refine .inr (.inl ?_)
        exact (setB_sub (n := 3) (s := 7) (c := 2) (by omega) (by omega) (by omega) (by decide)).symm
    · rw [setB_at, decide_eq_true_iff] at hx0
      have h2 := hl.2 0 (by decide)
      have hw := awG_wt3
      have hxn : x ≠ 2 := by
        rintro rfl
        exact absurd hx0.2.2 (by decide)
      have : x = 0 ∨ x = 1 := by omega
      rcases this with rfl | rfl
      · refine .inr (.inr ?_)
        exact (setB_sub (n := 3) (s := 3) (c := 0) (by omega) (by omega) (by omega) (by decide)).symm
      · omega
    · rw [setB_one (n := 3) (c := 1) (by omega) (by omega)] at hx0 hd
      have e1 : x = 1 := of_decide_eq_true hx0
      have e2 : d = 1 := of_decide_eq_true hd
      exact absurd (e2.trans e1.symm) hx
theorem aw_poss : possS 3 awG = [1] := by
  refine sorted_ext (poss_sorted 3 awG) (List.pairwise_singleton _ _) fun x => ?_
  rw [mem_poss, List.mem_singleton]
  constructor
  · rintro ⟨h0, h1, h⟩
    have hs : single x x = true := by unfold single; exact decide_eq_true rfl
    have e1 : single x = setB 3 2 := by
      rcases aw_rch h with e | e | e
      · have a := congrFun e 0
        have b := congrFun e 1
        rw [show setB 3 7 0 = true by decide] at a
        rw [show setB 3 7 1 = true by decide] at b
        have a : (0 : Int) = x := of_decide_eq_true a
        have b : (1 : Int) = x := of_decide_eq_true b
        omega
      · have a := congrFun e 0
        have b := congrFun e 1
        rw [show setB 3 3 0 = true by decide] at a
        rw [show setB 3 3 1 = true by decide] at b
        have a : (0 : Int) = x := of_decide_eq_true a
        have b : (1 : Int) = x := of_decide_eq_true b
        omega
      · exact e
    have a := congrFun e1 1
    rw [show setB 3 2 1 = true by decide] at a
    exact (of_decide_eq_true a : (1 : Int) = x).symm
  · rintro rfl
    obtain ⟨w, hw, hr⟩ := order_can (brk := brkS 1 [0, 1, 2]) (gs := awG) (n := 3) 3 (List.replicate 3 true) [] aw_brk (by decide) (by decide) (by rw [rem_full]; exact Rch.full)
    rw [awG_order] at hw
    have : w = 1 := by simpa using hw.symm
    subst this
    exact ⟨by omega, by omega, hr⟩

end Go.Proofs.Nums
