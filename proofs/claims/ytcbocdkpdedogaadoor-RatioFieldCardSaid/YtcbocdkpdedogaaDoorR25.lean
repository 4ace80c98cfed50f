import Derived.Test.YtcbocdkpdedogaaDoorR24
import Derived.Test.YtcbocdkpdedogaaDoorR21
import Derived.Deep.DeepCutAuto
import Derived.Deep.CutBlock
import Derived.Outline
import Derived.IntWalk
namespace Go.Proofs.YtcbocdkpdedogaaDoor
open Go.RowKit Go.Proofs.Kit Go.Proofs.Nums

/-- What the reference's Read hands back. -/
def ReadC (ok : Bool) (q : Q) (w : World) (e : Ending) (w' : World) : Prop :=
  (∃ b p l k p' l' k', e = .returned (.tuple #[.agg #[.bool b, .slice p l k, .slice p' l' k'], .bool ok]) ∧ (ok = true → RIn w' (.agg #[.bool b, .slice p l k, .slice p' l' k']) q w.heap.size w'.heap.size)) ∧ Below w.heap.size w w'

theorem ReadC.no {ok : Bool} {q : Q} {w w' : World} (h : ok = false) (hb : Below w.heap.size w w') : ReadC ok q w (.returned (.tuple #[.agg #[.bool false, .slice none 0 0, .slice none 0 0], .bool false])) w' := by
  subst h
  exact ⟨⟨false, none, 0, 0, none, 0, 0, rfl, fun h => by cases h⟩, hb⟩

theorem ReadC.yes {ok okt : Bool} {q : Q} {w w' : World} {t : Bool} {p : Option Addr} {l k : Nat} {p' : Option Addr} {l' k' : Nat} (h : ok = okt) (h1 : RIn w' (.agg #[.bool t, .slice p l k, .slice p' l' k']) q w.heap.size w'.heap.size) (hb : Below w.heap.size w w') : ReadC ok q w (.returned (.tuple #[.agg #[.bool t, .slice p l k, .slice p' l' k'], .bool okt])) w' := by
  subst h
  exact ⟨⟨t, p, l, k, p', l', k', rfl, fun _ => h1⟩, hb⟩

set_option maxRecDepth 1000000 in
set_option maxHeartbeats 8000000 in
theorem rread_core {s rest a bb t : ByteArray} {neg ok1 ok2 okt : Bool} {n d : Nat} {q : Q} (w : World) (hs : s.size ≤ 1000) (hrs : rest.size ≤ 1000)
    (hneg : (neg = false ∧ rest = s ∧ ((s.toList = [] ∧ s.toList.isEmpty = true) ∨ ((¬ s.toList = []) ∧ s.toList.isEmpty = false ∧ ∃ x0, ∃ h : 0 < s.size, s[0]'h = x0 ∧ ((x0.toNat : Int) == 45) = false))) ∨
      (neg = true ∧ (¬ s.toList = []) ∧ s.toList.isEmpty = false ∧ (∃ x0, ∃ h : 0 < s.size, s[0]'h = x0 ∧ ((x0.toNat : Int) == 45) = true) ∧ Hid (s.extract 1 s.size = rest)))
    (hf : (a = rest ∧ bb = ⟨#[49]⟩ ∧ Hid (∀ k (h : k < rest.size), rest[k]'h ≠ 47)) ∨
      (∃ p, ∃ h : p < rest.size, Hid (∀ k (h : k < rest.size), k < p → rest[k]'h ≠ 47) ∧ rest[p]'h = 47 ∧ Hid (rest.extract 0 p = a) ∧ Hid (rest.extract (p + 1) rest.size = bb)))
    (RA : Hid (∀ w, Calls Tryd.prog 59 #[.string a] w fun e w' => ∃ p l k, e = .returned (.tuple #[.slice p l k, .bool ok1]) ∧ BitAt w' (.slice p l k) (bitsN n) ∧ Below w.heap.size w w'))
    (RB : Hid (∀ w, Calls Tryd.prog 59 #[.string bb] w fun e w' => ∃ p k, e = .returned (.tuple #[.slice p (bitsN d).length k, .bool ok2]) ∧ BitAt w' (.slice p (bitsN d).length k) (bitsN d) ∧ Below w.heap.size w w'))
    (NM : Hid (∀ v v' w, BitAt w v (bitsN n) → BitAt w v' (bitsN d) → Calls Tryd.prog 44 #[.bool neg, v, v'] w fun e w' => ∃ p1 l1 k1 p2 l2 k2, e = .returned (.agg #[.bool q.neg, .slice p1 l1 k1, .slice p2 l2 k2]) ∧ RIn w' (.agg #[.bool q.neg, .slice p1 l1 k1, .slice p2 l2 k2]) q w.heap.size w'.heap.size ∧ Below w.heap.size w w'))
    (TX : Hid (∀ v w, RAt w v q → Calls Tryd.prog 22 #[v] w fun e w' => e = .returned (.string t) ∧ Below w.heap.size w w'))
    (ht : (t.toList == s.toList) = okt) :
    Calls Tryd.prog 23 #[.string s] w (ReadC (ok1 && ok2 && decide (d ≠ 0) && okt) q w) := by
  have B0 := Lib.hid (Blk.new w #[.bool false, .slice none 0 0, .slice none 0 0] 30)
  have hBd : Below w.heap.size w (w.alloc (.cells #[.bool false, .slice none 0 0, .slice none 0 0] 30)) := (Below.refl _ _).alloc (Nat.le_refl _) _
  obtain ⟨qn, hq⟩ : ∃ x, q.neg = x := ⟨_, rfl⟩
  rw [hq] at NM
  have HQ := Lib.hid hq
  clear hq
  rcases hneg with ⟨rfl, rfl, ⟨h1, h2⟩ | ⟨h1, h2, x0, h3, h4, h5⟩⟩ | ⟨rfl, h1, h2, ⟨x0, h3, h4, h5⟩, h6⟩
  all_goals
    go_enter Tryd.func23, Tryd.ntmps23
    go_upto_block 0 with fail
    try rw [h6.out]
    go_cut [4, 5, 7] (fun s4 s5 _ wx => s4 = .string a ∧ s5 = .string bb ∧ Hid (Blk w.heap.size #[.bool false, .slice none 0 0, .slice none 0 0] wx) ∧ Below w.heap.size w wx)
    case first =>
      clear RA RB NM TX ht
      rcases hf with ⟨rfl, rfl, hM⟩ | ⟨p, hp, hM, h47, he1, he2⟩
      · go_wp2_with fail
        go_loop [4, 5, 7] (fun x y i => x = .string a ∧ y = .string ⟨#[49]⟩ ∧ ∃ k : Nat, k ≤ a.size ∧ i = .int .i64 k) (fun _ _ i => a.size - (intOf i).toNat)
        case atStart => exact ⟨rfl, rfl, 0, Nat.zero_le _, rfl⟩
        case round =>
          obtain ⟨rfl, rfl, k, hk, rfl⟩ := hrel
          by_cases hlt : k < a.size
          · obtain ⟨x, hx⟩ : ∃ x, a[k] = x := ⟨_, rfl⟩
            have hb : ((x.toNat : Int) == 47) = false := by
              have hne := hM.out k hlt
              rw [hx] at hne
              rw [beq_eq_false_iff_ne]; intro h'; apply hne; exact UInt8.toNat_inj.1 (by have : (47 : UInt8).toNat = 47 := rfl; omega)
            go_wp2_with fail
            go_round
            case rel => exact ⟨rfl, rfl, k + 1, by omega, by go_num⟩
            case measure => simp [intOf]; omega
          · go_wp2_with fail
            go_meet
            exact ⟨rfl, rfl, B0, hBd⟩
      · have hp2 : (0 : Int) ≤ (p : Int) := by omega
        have hp3 : (p : Int) ≤ (rest.size : Int) := by omega
        have hp4 : (p : Int) + 1 ≤ (rest.size : Int) := by omega
        have hp5 : IntKind.i64.wrap ((p : Int) + 1) = (p : Int) + 1 := IntWalk.i64_in _ (by omega)
        have HP5 := Lib.hid hp5
        clear hp5
        go_wp2_with fail
        go_loop [4, 5, 7] (fun x y i => x = .string rest ∧ y = .string ⟨#[49]⟩ ∧ ∃ k : Nat, k ≤ p ∧ i = .int .i64 k) (fun _ _ i => rest.size - (intOf i).toNat)
        case atStart => exact ⟨rfl, rfl, 0, Nat.zero_le _, rfl⟩
        case round =>
          obtain ⟨rfl, rfl, k, hk, rfl⟩ := hrel
          by_cases hlt : k < p
          · have hlt2 : k < rest.size := by omega
            obtain ⟨x, hx⟩ : ∃ x, rest[k] = x := ⟨_, rfl⟩
            have hb : ((x.toNat : Int) == 47) = false := by
              have hne := hM.out k hlt2 hlt
              rw [hx] at hne
              rw [beq_eq_false_iff_ne]; intro h'; apply hne; exact UInt8.toNat_inj.1 (by have : (47 : UInt8).toNat = 47 := rfl; omega)
            go_wp2_with fail
            go_round
            case rel => exact ⟨rfl, rfl, k + 1, by omega, by go_num⟩
            case measure => simp [intOf]; omega
          · obtain rfl : k = p := by omega
            obtain ⟨x, hx⟩ : ∃ x, rest[k] = x := ⟨_, rfl⟩
            have hb : ((x.toNat : Int) == 47) = true := by rw [← hx, h47]; rfl
            clear h47
            go_wp2_with fail
            have hp5 := HP5.out
            go_region
            go_wp2_with fail
            go_meet
            rw [he1.out, he2.out]
            exact ⟨rfl, rfl, Lib.hid B0.out.drew, hBd.drew⟩
    case rest =>
      obtain ⟨rfl, rfl, hB1, hb1⟩ := hcut
      clear h1 h2 hf
      obtain ⟨K, hK⟩ : ∃ K, (bitsN d).length = K := ⟨_, rfl⟩
      have hd : (d = 0 ∧ K = 0) ∨ (d ≠ 0 ∧ (((K : Nat) : Int) == 0) = false) := by
        rcases Nat.eq_zero_or_pos d with h0 | h0
        · subst h0; exact .inl ⟨rfl, hK.symm⟩
        · have := bits_len_pos h0
          exact .inr ⟨by omega, by rw [beq_eq_false_iff_ne]; omega⟩
      rw [hK] at RB
      have HK := Lib.hid hK
      clear hK
      have HD0 : Hid (d ≠ 0 ∨ d = 0) := Lib.hid (by omega)
      rcases ok1 with _ | _
      · go_wp2_with (first
                  | (go_at_call 59; ((with_reducible refine (RA.out _).mono ?_); rintro e w3 ⟨p3, l3, k3, rfl, hv3, hb3⟩; have hB3 := bel2' hb1 hb3; have B03 := Lib.hid (hB1.out.keep hb3)))
                  | (go_at_call 59; ((with_reducible refine (RB.out _).mono ?_); rintro e w4 ⟨p4, k4, rfl, hv4, hb4⟩; have hB4 := bel2' hB3 hb4; have B04 := Lib.hid (B03.out.keep hb4); have hv3b := hv3.keep hb4; obtain ⟨m0, m1, m2⟩ := B04.out.three; obtain ⟨t0, t1, t2⟩ := B04.out.free3))
                  )
        refine bodyPost_ret (v := .tuple #[.agg #[.bool false, .slice none 0 0, .slice none 0 0], .bool false]) (by simp [results, Tryd.results23, go_sem, m0, m1, m2]) rfl ?_
        exact ReadC.no (by simp) (below_set3 hB4 (Nat.le_refl _) _ _ _)
      · rcases ok2 with _ | _
        · go_wp2_with (first
                  | (go_at_call 59; ((with_reducible refine (RA.out _).mono ?_); rintro e w3 ⟨p3, l3, k3, rfl, hv3, hb3⟩; have hB3 := bel2' hb1 hb3; have B03 := Lib.hid (hB1.out.keep hb3)))
                  | (go_at_call 59; ((with_reducible refine (RB.out _).mono ?_); rintro e w4 ⟨p4, k4, rfl, hv4, hb4⟩; have hB4 := bel2' hB3 hb4; have B04 := Lib.hid (B03.out.keep hb4); have hv3b := hv3.keep hb4; obtain ⟨m0, m1, m2⟩ := B04.out.three; obtain ⟨t0, t1, t2⟩ := B04.out.free3))
                  )
          refine bodyPost_ret (v := .tuple #[.agg #[.bool false, .slice none 0 0, .slice none 0 0], .bool false]) (by simp [results, Tryd.results23, go_sem, m0, m1, m2]) rfl ?_
          exact ReadC.no (by simp) (below_set3 hB4 (Nat.le_refl _) _ _ _)
        · rcases hd with ⟨h0, rfl⟩ | ⟨h0, hK0⟩
          · have H0 := Lib.hid h0
            clear h0
            go_wp2_with (first
                  | (go_at_call 59; ((with_reducible refine (RA.out _).mono ?_); rintro e w3 ⟨p3, l3, k3, rfl, hv3, hb3⟩; have hB3 := bel2' hb1 hb3; have B03 := Lib.hid (hB1.out.keep hb3)))
                  | (go_at_call 59; ((with_reducible refine (RB.out _).mono ?_); rintro e w4 ⟨p4, k4, rfl, hv4, hb4⟩; have hB4 := bel2' hB3 hb4; have B04 := Lib.hid (B03.out.keep hb4); have hv3b := hv3.keep hb4; obtain ⟨m0, m1, m2⟩ := B04.out.three; obtain ⟨t0, t1, t2⟩ := B04.out.free3))
                  )
            refine bodyPost_ret (v := .tuple #[.agg #[.bool false, .slice none 0 0, .slice none 0 0], .bool false]) (by simp [results, Tryd.results23, go_sem, m0, m1, m2]) rfl ?_
            exact ReadC.no (by simp [H0.out]) (below_set3 hB4 (Nat.le_refl _) _ _ _)
          · have H0 := Lib.hid h0
            clear h0
            go_wp2_with (first
                  | (go_at_call 59; ((with_reducible refine (RA.out _).mono ?_); rintro e w3 ⟨p3, l3, k3, rfl, hv3, hb3⟩; have hB3 := bel2' hb1 hb3; have B03 := Lib.hid (hB1.out.keep hb3)))
                  | (go_at_call 59; ((with_reducible refine (RB.out _).mono ?_); rintro e w4 ⟨p4, k4, rfl, hv4, hb4⟩; have hB4 := bel2' hB3 hb4; have B04 := Lib.hid (B03.out.keep hb4); have hv3b := hv3.keep hb4))
                  | (go_at_call 44; ((with_reducible refine (NM.out _ _ _ hv3b hv4).mono ?_); rintro e w5 ⟨p5, l5, k5, p6, l6, k6, rfl, hv5, hb5⟩; have hB5 := bel2' hB4 hb5; have B05 := Lib.hid ((B04.out.keep hb5).alloc (.cells #[.bool qn, .slice p5 l5 k5, .slice p6 l6 k6] 30)).drew; have C05 := Lib.hid (Blk.new w5 #[.bool qn, .slice p5 l5 k5, .slice p6 l6 k6] 30).drew; have hB5a := (hB5.alloc hB5.size (.cells #[.bool qn, .slice p5 l5 k5, .slice p6 l6 k6] 30)).drew; have hv5a := hv5.keep ((Below.refl _ _).alloc (Nat.le_refl _) (.cells #[.bool qn, .slice p5 l5 k5, .slice p6 l6 k6] 30)).drew))
                  )
            have hne5 := Nat.lt_of_lt_of_le B04.out.1 hb5.size
            go_region_held3 (fun w' => w'.cell? ⟨w5.heap.size, 0, none⟩ = some (.bool qn) ∧ w'.cell? ⟨w5.heap.size, 1, none⟩ = some (.slice p5 l5 k5) ∧ w'.cell? ⟨w5.heap.size, 2, none⟩ = some (.slice p6 l6 k6))
                  (first | exact C05.out.three | exact C06.out.three | exact C07.out.three)
                  ((go_at_call 22; ((with_reducible refine (TX.out _ _ hv5a.at).mono ?_); rintro e w6 ⟨rfl, hb6⟩; have hB6 := bel2' hB5a hb6; have B06 := Lib.hid (B05.out.keep hb6); obtain ⟨i0, i1, i2⟩ := B06.out.three; obtain ⟨j0, j1, j2⟩ := B06.out.free3; have C06 := Lib.hid (C05.out.keep hb6); have hv6 := hv5a.keep hb6; have C07 := Lib.hid (C06.out.put_other (b' := w.heap.size) (by omega) (.bool qn) (.slice p5 l5 k5) (.slice p6 l6 k6)))))
            all_goals
              go_wp2_with fail
              refine bodyPost_ret (v := .tuple #[.agg #[.bool qn, .slice p5 l5 k5, .slice p6 l6 k6], .bool okt]) (by simp [results, Tryd.results23, go_sem, i0, i1, i2]) rfl ?_
              refine ReadC.yes (by simp [H0.out]) ?_ (below_set3 hB6 (Nat.le_refl _) _ _ _)
              exact (hv6.put (b := w.heap.size) (.inl B04.out.1) (.bool qn) (.slice p5 l5 k5) (.slice p6 l6 k6)).wide (Nat.le_of_lt B04.out.1) (by simp only [World.size_setCell]; have := hb6.size; simp at this; omega)

end Go.Proofs.YtcbocdkpdedogaaDoor
