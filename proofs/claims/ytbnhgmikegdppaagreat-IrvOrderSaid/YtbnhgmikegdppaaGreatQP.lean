/- Contracts and plain facts, part 16: Hb, Iv, Hc, Hd. No condition beyond those that each theorem states. -/
import Derived.Test.YtbnhgmikegdppaaGreatQO
import Derived.Deep.RegionHeld3
import Derived.Deep.DeepCutAuto
/- The reference's sum and Votes. -/
namespace Go.Proofs.YtbnhgmikegdppaaGreat
open Go.RowKit Go.Proofs.Kit Go.Proofs.Nums

theorem int_mem {l : List Int} {k : Nat} (h : k < l.length) : l.getD k 0 ∈ l := by
  rw [List.getD_eq_getElem?_getD, List.getElem?_eq_getElem h]
  exact List.getElem_mem h

set_option maxRecDepth 100000 in
set_option maxHeartbeats 2000000 in
theorem rsum_c {v : Value} {l : List Int} {w : World} (hv : IntsAt w v l) (hr : ∀ x ∈ l, 0 ≤ x ∧ x ≤ 100000) (h7 : l.length ≤ 7) :
    Calls Tryz.prog 33 #[v] w fun e w' => e = .returned (.int .i64 l.sum) ∧ w = w' := by
  have H := Lib.hid hv
  have HR := Lib.hid hr
  obtain ⟨p, c, rfl⟩ := hv.shape
  obtain ⟨n, hn⟩ : ∃ n, l.length = n := ⟨_, rfl⟩
  have HN := Lib.hid hn
  rw [hn] at h7 H ⊢
  obtain ⟨S, hS⟩ : ∃ s, l.sum = s := ⟨_, rfl⟩
  have HS := Lib.hid hS
  rw [hS]
  clear hv hn hr hS
  go_enter Tryz.func33, Tryz.ntmps33
  go_wp2_with fail
  go_loopw [3, 4] (fun sv iv wr => ∃ k : Nat, ∃ s : Int, k ≤ n ∧ iv = .int .i64 k ∧ sv = .int .i64 s ∧ wr = w ∧ Hid (s = (l.take k).sum) ∧ 0 ≤ s ∧ s ≤ 100000 * (k : Int)) (fun _ iv _ => n - (intOf iv).toNat)
  case atStart => exact ⟨0, 0, by omega, rfl, rfl, rfl, Lib.hid (by simp), by omega, by omega⟩
  case round =>
    obtain ⟨k, s, hk, rfl, rfl, rfl, hs, h0, h1⟩ := hrel
    by_cases hlt : k < n
    · have hltz : (k : Int) < (n : Int) := by omega
      obtain ⟨b, off, rfl, _, _, hcell⟩ := H.out.cellAt k (by rw [HN.out]; exact hlt)
      have hst := sum_take_step (l := l) (k := k) (by rw [HN.out]; exact hlt) rfl
      have hy := HR.out _ (int_mem (l := l) (k := k) (by rw [HN.out]; exact hlt))
      obtain ⟨y, hyy⟩ : ∃ y, l.getD k 0 = y := ⟨_, rfl⟩
      rw [hyy] at hcell hst hy
      have hS2 : Hid (s + y = (l.take (k + 1)).sum) := Lib.hid (by rw [hst, ← hs.out])
      have ew : IntKind.i64.wrap (s + y) = s + y := w64 (by omega) (by omega)
      clear hst hyy
      go_wp2_with fail
      go_roundw
      case rel => exact ⟨k + 1, s + y, by omega, by go_num, rfl, by trivial, hS2, by omega, by omega⟩
      case measure => simp [intOf] <;> omega
    · have hltz : ¬ (k : Int) < (n : Int) := by omega
      have hSS : s = S := by rw [hs.out, List.take_of_length_le (by rw [HN.out]; omega), HS.out]
      subst hSS
      go_wp2_with fail
      go_ret
      exact ⟨rfl, rfl⟩

theorem votes_fun {w : World} {p : Option Addr} {n c : Nat} {R : List Rnd} (h : RndsAt w (.slice p n c) R) :
    ∃ f : Nat → Value, ∀ i r, R[i]? = some r → ∃ g off, p = some ⟨g, off, none⟩ ∧ w.cell? ⟨g, off + i * 14, none⟩ = some (f i) ∧ RatsAt w (f i) (wholesS r.votes) := by
  refine ⟨fun i => match p with | some ⟨g, off, _⟩ => (w.cell? ⟨g, off + i * 14, none⟩).getD (.bool false) | none => .bool false, fun i r hr => ?_⟩
  obtain ⟨g, off, a, b, q1, q2, e1, e2, s1, s2, l1, l2, l3, rfl, _, _, _, V, C⟩ := rnd_at h hr
  refine ⟨g, off, rfl, ?_, ?_⟩
  · simp only [C.1, Option.getD_some]
  · simp only [C.1, Option.getD_some]; exact V.h.votes
theorem rounds_of {w : World} {v : Value} {n : Nat} {f : Nat → Value} {L : List (List Q)} (h : RowAt w v ((List.range n).map f)) (hn : L.length = n) (hf : ∀ (i : Nat) (l : List Q), L[i]? = some l → RatsAt w (f i) l) : RoundsAt w v L := by
  obtain ⟨p, cap, rfl, h1, h2, h3, h4⟩ := h
  rw [List.length_map, List.length_range] at h1 ⊢
  subst hn
  refine ⟨((List.range L.length).map f).map fun u => [u], p, cap, rfl, h1, h2, h3, by simp, fun c hc => ?_, fun q hq i c j u hi hj => ?_, fun i c x hi hx => ?_⟩
  · obtain ⟨u, _, rfl⟩ := List.mem_map.1 hc; rfl
  · rw [List.getElem?_map] at hi
    obtain ⟨u2, hu2, rfl⟩ := Option.map_eq_some_iff.1 hi
    cases j with
    | zero =>
      have : u2 = u := by simpa using hj
      subst this
      have := h4 q hq i u2 hu2
      simpa using this
    | succ j => simp at hj
  · rw [List.getElem?_map, List.getElem?_map] at hi
    have hlt := (List.getElem?_eq_some_iff.1 hx).1
    rw [List.getElem?_range hlt] at hi
    simp only [Option.map_some, Option.some.injEq] at hi
    subst hi
    exact ⟨f i, rfl, hf i x hx⟩

set_option maxRecDepth 100000 in
set_option maxHeartbeats 2000000 in
theorem rvotes_c {v : Value} {R : List Rnd} {w : World} (hv : RndsAt w v R) (h7 : R.length ≤ 7) :
    Calls Tryz.prog 39 #[v] w fun e w' => ∃ v', e = .returned v' ∧ RoundsAt w' v' (R.map fun r => wholesS r.votes) ∧ Below w.heap.size w w' := by
  obtain ⟨p, c, rfl, _, _⟩ := SliceOf.shape hv
  obtain ⟨f, hf⟩ := votes_fun hv
  have HF := Lib.hid hf
  obtain ⟨len, hlen⟩ : ∃ n, R.length = n := ⟨_, rfl⟩
  have HN := Lib.hid hlen
  rw [hlen] at h7 ⊢
  clear hv hlen hf
  go_enter Tryz.func39, Tryz.ntmps39
  go_wp2_with fail
  go_loopw [3, 4] (fun ov iv wr => ∃ k : Nat, k ≤ len ∧ iv = .int .i64 k ∧ Below w.heap.size w wr ∧ wr.ownsRow w.heap.size 47 1 ov k ((List.range k).map f)) (fun _ iv _ => len - (intOf iv).toNat)
  case atStart => exact ⟨0, by omega, rfl, Below.refl _ _, World.ownsRow_nil _ _ _ _⟩
  case round =>
    obtain ⟨k, hk, rfl, hbel, hown⟩ := hrel
    by_cases hlt : k < len
    · have hltz : (k : Int) < (len : Int) := by omega
      obtain ⟨r, hr⟩ : ∃ r, R[k]? = some r := ⟨R[k]'(by rw [HN.out]; exact hlt), List.getElem?_eq_getElem _⟩
      obtain ⟨g, off, rfl, hcell, hra⟩ := HF.out k r hr
      obtain ⟨pf, cf, ef⟩ := hra.shp
      obtain ⟨nf, hnf⟩ : ∃ n, (wholesS r.votes).length = n := ⟨_, rfl⟩
      rw [hnf] at ef
      rw [ef] at hcell
      have hcr := cell_keep hbel hcell
      have hE := hbel.size
      obtain ⟨pu, cu, rfl, hmc, hcm⟩ := own_shp hown
      have EF := Lib.hid ef
      clear hra hcell hr ef hnf
      go_wp2_with (at_builtin; go_must (refine append_fresh erRR rfl rfl hown rfl rfl rfl (by simp [Value.oneCell']) (by omega) (by omega) hE ?_); intro v6 w6 hown6 hg6 hb6 _ hG6)
      go_roundw
      case rel =>
        refine ⟨k + 1, by omega, by go_num, hbel.trans hb6, ?_⟩
        rw [List.range_succ, List.map_append, List.map_singleton, EF.out]
        exact hown6
      case measure => simp [intOf] <;> omega
    · obtain rfl : len = k := by omega
      have hltz : ¬ (len : Int) < (len : Int) := by omega
      have hR := RowAt.owned hown
      go_wp2_with fail
      go_ret
      refine ⟨_, rfl, rounds_of hR (by rw [List.length_map, HN.out]) (fun i l hl => ?_), hbel⟩
      rw [List.getElem?_map] at hl
      obtain ⟨r, hr, rfl⟩ := Option.map_eq_some_iff.1 hl
      obtain ⟨_, _, _, _, h⟩ := HF.out i r hr
      exact h.keep hbel

end Go.Proofs.YtbnhgmikegdppaaGreat

/- The reference: First, Lowest. -/
namespace Go.Proofs.YtbnhgmikegdppaaGreat
open Go.RowKit Go.Proofs.Kit Go.Proofs.Nums

set_option maxRecDepth 100000 in
set_option maxHeartbeats 8000000 in
theorem rfirst_c {v vr : Value} {gs : List Grp} {rem : List Bool} {w : World} (hv : PileAt w v gs) (hr : BoolsAt w vr rem) (hp : PileP 7 gs) (h1 : 1 ≤ rem.length) (h7 : rem.length ≤ 7) :
    Calls Tryz.prog 32 #[v, vr] w fun e w' => ∃ v', e = .returned (.tuple #[v', .int .i64 (restS gs rem)]) ∧ IntsAt w' v' (votesS gs rem) ∧ Fresh w.heap.size v' ∧ Below w.heap.size w w' := by
  have HP := Lib.hid hp
  have HV := Lib.hid hv
  have HR := Lib.hid hr
  have AN := rpile_c hv
  rw [show pileS 7 gs = true from pile_true.2 hp] at AN
  have AN := Lib.hid AN
  have hlm := SliceOf.len hv
  obtain ⟨p, c, rfl⟩ := hv.shp
  obtain ⟨pr, cr, rfl⟩ := hr.shape
  obtain ⟨len, hlen⟩ : ∃ n, gs.length = n := ⟨_, rfl⟩
  obtain ⟨n, hn⟩ : ∃ n, rem.length = n := ⟨_, rfl⟩
  have HN := Lib.hid hlen
  have HM := Lib.hid hn
  rw [hlen] at HV hlm AN ⊢
  rw [hn] at HR h1 h7 ⊢
  clear hv hr hp hlen hn
  have n7 : ¬ (7 : Int) < (n : Int) := by omega
  go_enter Tryz.func32, Tryz.ntmps32
  go_wp2_with (first
    | (go_at_call 56; ((with_reducible refine AN.out.mono ?_); rintro _ w1 ⟨rfl, hb1⟩))
    | (at_make; go_must (refine make_any erI rfl rfl rfl rfl (by omega) (by omega) (by omega) ?_); intro w7 hown7 hb7))
  rw [show ((n : Int)).toNat = n by omega] at *
  have own7 := OwnInt.made hown7
  clear hown7
  have HW1 : Hid (∀ w', Below w1.heap.size w1 w' → Below w.heap.size w w') := Lib.hid (fun w' h => bel2' hb1 h)
  have hws1 := hb1.size
  obtain ⟨G, hG⟩ : ∃ G, w1.heap.size = G := ⟨_, rfl⟩
  have HGe := Lib.hid hG
  rw [hG] at own7 hb7 hws1 ⊢
  clear AN
  go_loopw [7, 8] (fun sv iv wr => ∃ k : Nat, ∃ s : Int, k ≤ len ∧ iv = .int .i64 k ∧ sv = .int .i64 s ∧ Below G w1 wr ∧ OwnInt wr G G n (votesS (gs.take k) rem) ∧ Hid (s = restS (gs.take k) rem) ∧ 0 ≤ s ∧ s ≤ 100000) (fun _ iv _ => len - (intOf iv).toNat)
  case atStart => exact ⟨0, 0, by omega, rfl, rfl, hb7, by rw [List.take_zero, votes_nil, HM.out]; exact own7, Lib.hid rfl, by omega, by omega⟩
  case round =>
    obtain ⟨k, s, hk, rfl, rfl, hbel, hO, hS, s0, s1⟩ := hrel
    have hbelW : Below w.heap.size w wr := HW1.out wr (by rw [HGe.out]; exact hbel)
    by_cases hlt : k < len
    · have hltz : (k : Int) < (len : Int) := by omega
      obtain ⟨g, hg⟩ : ∃ g, gs.getD k g0 = g := ⟨_, rfl⟩
      obtain ⟨bb, off, q, m, d, hp0, hc1, hc2, cl0, cl1, HI, hm⟩ := (HV.out.keep hbelW).cellAt (by rw [HN.out]; exact hlt) hg
      subst hp0
      have hgm : g ∈ gs := mem_getG (by rw [HN.out]; exact hlt) hg
      have hbal := HP.out.bal g hgm
      have hpos := HP.out.pos g hgm
      have htk := take_snoc_g (l := gs) (k := k) (by rw [HN.out]; exact hlt)
      rw [hg] at htk
      have htb : totS (gs.take k) + g.n ≤ 100000 := by
        have h2 := tot_take HP.out.pos (k + 1)
        rw [htk, tot_snoc] at h2
        have := HP.out.tot
        omega
      have hpk := pos_take HP.out.pos k
      obtain ⟨y, hy⟩ : ∃ y, g.n = y := ⟨_, rfl⟩
      rw [hy] at cl1 hpos htb
      have HTK := Lib.hid htk
      have HY := Lib.hid hy
      have hpl7 : g.p.length ≤ 7 := nodup_len 7 g.p hbal.2 hbal.1
      have KC0 := kept_c HI (HR.out.keep hbelW) (by omega)
      obtain ⟨kl, hkl⟩ : ∃ n, (keptS rem g.p).length = n := ⟨_, rfl⟩
      have KC : Hid (Calls Tryz.prog 57 #[.slice q m d, .slice pr n cr] wr fun e w' => ∃ p2 c2, e = .returned (.slice p2 kl c2) ∧ IntsAt w' (.slice p2 kl c2) (keptS rem g.p) ∧ Below wr.heap.size wr w') := Lib.hid (KC0.mono (by
        rintro e w' ⟨v', rfl, g1, _, g3⟩
        obtain ⟨p2, c2, rfl⟩ := g1.shape
        rw [hkl] at g1 ⊢
        exact ⟨p2, c2, rfl, g1, g3⟩))
      have HKL := Lib.hid hkl
      have hGw : G ≤ wr.heap.size := by have := (hO.2.lt G rfl).2; omega
      have hO := Lib.hid hO
      clear KC0
      by_cases hk0 : kl = 0
      · subst hk0
        obtain ⟨v1, v2⟩ := votes_snoc_no (gs := gs.take k) (kept_none hkl)
        have hb := (wt_tot (R := remB rem) hpk (-1)).2
        have hws : IntKind.i64.wrap (s + y) = s + y := w64 (by omega) (by have := hS.out; unfold restS at this; omega)
        have hsb : s + y ≤ 100000 := by have := hS.out; unfold restS at this; omega
        have HO2 : Hid (OwnInt wr G G n (votesS (gs.take (k + 1)) rem)) := Lib.hid (by rw [HTK.out, v1]; exact hO.out)
        have HS2 : Hid (s + y = restS (gs.take (k + 1)) rem) := Lib.hid (by rw [HTK.out, v2, HY.out, hS.out])
        clear v1 v2 hb htk hg hy hm HI hbal hkl
        go_wp2_with (go_at_call 57; ((with_reducible refine KC.out.mono ?_); rintro _ w3 ⟨p2, c2, rfl, h2, hb3⟩; have cl1' := cell_keep hb3 cl1))
        go_roundw
        case rel => exact ⟨k + 1, s + y, by omega, by go_num, rfl, hbel.trans (hb3.mono hGw), HO2.out.keep hb3, HS2, by omega, hsb⟩
        case measure => simp [intOf] <;> omega
      · obtain ⟨yv, hyv⟩ : ∃ z, (keptS rem g.p).getD 0 0 = z := ⟨_, rfl⟩
        have hfi := kept_some (rem := rem) (p := g.p) (by omega)
        rw [hyv] at hfi
        have hym := List.mem_of_find?_eq_some hfi
        have hy0 := (hbal.1 yv hym).1
        obtain ⟨yn, hyn⟩ : ∃ j : Nat, yv = j := ⟨yv.toNat, by omega⟩
        subst hyn
        obtain ⟨v1, v2, v3⟩ := votes_snoc_at (gs := gs.take k) hfi
        rw [HM.out] at v3
        have hg2 : (votesS (gs.take k) rem).getD yn 0 = wt (remB rem) (gs.take k) yn := by
          have := votes_get (gs := gs.take k) (rem := rem) (c := (yn : Int)) (by omega) (by rw [HM.out]; omega)
          exact this
        have hb := wt_tot (R := remB rem) hpk yn
        obtain ⟨u, hu⟩ : ∃ u, (votesS (gs.take k) rem).getD yn 0 = u := ⟨_, rfl⟩
        rw [hu] at hg2 v1
        rw [← hg2] at hb
        have HU := Lib.hid hu
        have hws : IntKind.i64.wrap (u + y) = u + y := w64 (by omega) (by omega)
        have HV1 : Hid (votesS (gs.take (k + 1)) rem = (votesS (gs.take k) rem).set yn (u + y)) := Lib.hid (by rw [HTK.out, v1, HY.out])
        have HS2 : Hid (s = restS (gs.take (k + 1)) rem) := Lib.hid (by rw [HTK.out, v2, hS.out])
        have klz : (0 : Int) < (kl : Int) := by omega
        have yz : (yn : Int) < (n : Int) := by omega
        have HYV := Lib.hid hyv
        clear v1 v2 hb htk hg hy hm HI hbal hu hg2 hyv hym hfi hkl
        go_wp2_with (go_at_call 57; ((with_reducible refine KC.out.mono ?_); rintro _ w3 ⟨p2, c2, rfl, h2, hb3⟩; have cl1' := cell_keep hb3 cl1; obtain ⟨b2, o2, hq, hk1, hk2, cy⟩ := h2.cellAt 0 (by rw [HKL.out]; omega); subst hq; rw [HYV.out] at cy; simp only [Nat.add_zero] at cy; rw [HKL.out] at hk1; have hO3 := hO.out.keep hb3; have cv := hO3.cell v3; rw [HU.out] at cv; have hfr := hO3.free yn))
        have hput := (hO3.keep ((Below.refl _ _).drew)).put yn (u + y)
        have HO2 : Hid (OwnInt (w3.drew.setCell ⟨G, yn, none⟩ (.int .i64 (u + y))) G G n (votesS (gs.take (k + 1)) rem)) := Lib.hid (by rw [HV1.out]; exact hput.1)
        have HB2 : Hid (Below G w1 (w3.drew.setCell ⟨G, yn, none⟩ (.int .i64 (u + y)))) := Lib.hid ((hbel.trans (hb3.mono hGw)).drew.setCell (Nat.le_refl _) _)
        clear hput hO3
        go_region
        all_goals
          go_wp2_with fail
          go_roundw
          case rel => exact ⟨k + 1, s, by omega, by go_num, rfl, HB2.out, HO2.out, HS2, s0, s1⟩
          case measure => simp [intOf] <;> omega
    · obtain rfl : k = len := by omega
      have e : gs.take k = gs := List.take_of_length_le (by rw [HN.out]; omega)
      rw [e] at hO hS
      have hO := Lib.hid hO
      have HWS := Lib.hid hws1
      clear hws1
      go_wp2_with fail
      go_ret2
      exact ⟨_, by rw [hS.out]; rfl, hO.out.read, fun b hb => by simp [Value.ownBlock] at hb; subst hb; exact HWS.out, hbelW⟩

set_option maxRecDepth 100000 in
set_option maxHeartbeats 8000000 in
theorem lowest_c {vv vr : Value} {gs : List Grp} {rem : List Bool} {w : World} (hv : IntsAt w vv (votesS gs rem)) (hr : BoolsAt w vr rem) (h7 : rem.length ≤ 7) :
    Calls Tryz.prog 37 #[vv, vr] w fun e w' => ∃ v', e = .returned v' ∧ IntsAt w' v' (lowS gs rem) ∧ Fresh w.heap.size v' ∧ Below w.heap.size w w' := by
  have H := Lib.hid hv
  have IN := Lib.hid (fun wq (h : Below w.heap.size w wq) x => in_c (hr.keep h) x)
  obtain ⟨p, c, rfl⟩ := hv.shape
  obtain ⟨pr, cr, rfl⟩ := hr.shape
  obtain ⟨n, hn⟩ : ∃ n, rem.length = n := ⟨_, rfl⟩
  have HN := Lib.hid hn
  have hvl : (votesS gs rem).length = n := by rw [votes_len, hn]
  have HVL := Lib.hid hvl
  have HLA : Hid (riseTo (lowS gs rem) n = lowS gs rem) := Lib.hid (by rw [← hn]; exact low_all gs rem)
  have HLL : Hid (∀ i, i < n → hasB (lowS gs rem) i = leastB (votesS gs rem) rem i n) := Lib.hid (fun i hi => by
    rw [Bool.eq_iff_iff, hasB_true, mem_low, ← hn, least_low (by omega)])
  have HLN : Hid (∀ k, (riseTo (lowS gs rem) k).length ≤ k) := Lib.hid (fun k => riseTo_len _ k)
  rw [hvl] at H ⊢
  rw [hn] at IN h7 ⊢
  obtain ⟨L, hL⟩ : ∃ L, lowS gs rem = L := ⟨_, rfl⟩
  rw [hL] at HLA HLL HLN ⊢
  obtain ⟨V, hV⟩ : ∃ V, votesS gs rem = V := ⟨_, rfl⟩
  rw [hV] at H HVL HLL
  clear hv hr hn hvl hL hV
  go_enter Tryz.func37, Tryz.ntmps37
  go_wp2_with fail
  go_loopw [5, 6] (fun ov iv wr => ∃ k m : Nat, k ≤ n ∧ iv = .int .i64 k ∧ wr.ownsRow w.heap.size 3 1 ov m ((riseTo L k).map (Value.int .i64)) ∧ Below w.heap.size w wr) (fun _ iv _ => n - (intOf iv).toNat)
  case atStart => exact ⟨0, 0, by omega, rfl, (World.ownsRow_nil _ _ _ _ : w.ownsRow w.heap.size 3 1 (.slice none 0 0) 0 []), Below.refl _ _⟩
  case round =>
    obtain ⟨i, m, hk, rfl, hown, hbel⟩ := hrel
    by_cases hlt : i < n
    · have hltz : (i : Int) < (n : Int) := by omega
      have hm2 : m ≤ i := by
        have h1 := hown.1
        have h2 := HLN.out i
        rw [List.length_map] at h1
        omega
      obtain ⟨b6, o6, e6, hcap1, hcap2, hvc⟩ := (H.out.keep hbel).cellAt i (by rw [HVL.out]; exact hlt)
      subst e6
      obtain ⟨x, hx⟩ : ∃ x, V.getD i 0 = x := ⟨_, rfl⟩
      rw [hx] at hvc
      have HX := Lib.hid hx
      have hown := Lib.hid hown
      have I0 := IN.out wr hbel i
      rw [remB_at] at I0
      have I0 : Hid (Calls Tryz.prog 59 #[.slice pr n cr, .int .i64 i] wr fun e w' => e = .returned (.bool (leastB V rem i 0)) ∧ wr = w') := Lib.hid I0
      clear hx
      go_wp2_with (go_at_call 59; ((with_reducible refine I0.out.mono ?_); rintro _ _ ⟨rfl, rfl⟩))
      go_loopw [7, 8] (fun lv iv wz => ∃ d : Nat, d ≤ n ∧ iv = .int .i64 d ∧ lv = .bool (leastB V rem i d) ∧ Below wr.heap.size wr wz) (fun _ iv _ => n - (intOf iv).toNat)
      case atStart => exact ⟨0, by omega, rfl, rfl, Below.refl _ _⟩
      case round =>
        obtain ⟨d, hd, rfl, rfl, hbz⟩ := hrel
        by_cases hdl : d < n
        · have hdz : (d : Int) < (n : Int) := by omega
          obtain ⟨b7, o7, e7, _, _, hvd⟩ := ((H.out.keep hbel).keep hbz).cellAt d (by rw [HVL.out]; exact hdl)
          simp only [Option.some.injEq, Addr.mk.injEq, and_true] at e7
          obtain ⟨rfl, rfl⟩ := e7
          have hvcz := cell_keep hbz hvc
          have hst : leastB V rem i (d + 1) = (leastB V rem i d && (!(rem.getD d false) || decide (V.getD i 0 ≤ V.getD d 0))) := rfl
          rw [HX.out] at hst
          obtain ⟨y, hy⟩ : ∃ y, V.getD d 0 = y := ⟨_, rfl⟩
          obtain ⟨r, hr⟩ : ∃ y, rem.getD d false = y := ⟨_, rfl⟩
          have ID : Hid (∀ q, Calls Tryz.prog 59 #[.slice pr n cr, .int .i64 d] (wr.drewN q) fun e w' => e = .returned (.bool r) ∧ w' = wr.drewN q) := Lib.hid (fun q => by
            have h := IN.out _ (below_drewN (bel2' hbel hbz) q) d
            rw [remB_at, hr] at h
            exact h.mono fun _ _ ⟨h1, h2⟩ => ⟨h1, h2.symm⟩)
          rw [hr] at hst
          rw [hy] at hst hvd
          obtain ⟨l, hl⟩ : ∃ l, leastB V rem i d = l := ⟨_, rfl⟩
          rw [hl] at hst ⊢
          clear hr hy hl
          cases r
          · have HST2 : Hid (leastB V rem i (d + 1) = l) := Lib.hid (by rw [hst]; simp)
            clear hst
            go_wp2_with fail
            go_quiet ((go_at_call 59; exact Calls.quiet_of_same (ID.out _)))
            all_goals
              go_wp2_with fail
              go_roundw
              case rel => exact ⟨d + 1, by omega, by go_num, by rw [HST2.out], below_drewN hbz _⟩
              case measure => simp [intOf] <;> omega
          · by_cases hyx : y < x
            · have hd1 : decide (y < x) = true := decide_eq_true hyx
              have HST2 : Hid (leastB V rem i (d + 1) = false) := Lib.hid (by rw [hst, decide_eq_false (by omega)]; simp)
              clear hst
              go_wp2_with fail
              go_quiet ((go_at_call 59; exact Calls.quiet_of_same (ID.out _)))
              all_goals
                go_wp2_with fail
                go_roundw
                case rel => exact ⟨d + 1, by omega, by go_num, by rw [HST2.out], below_drewN hbz _⟩
                case measure => simp [intOf] <;> omega
            · have hd1 : decide (y < x) = false := decide_eq_false hyx
              have HST2 : Hid (leastB V rem i (d + 1) = l) := Lib.hid (by rw [hst, decide_eq_true (by omega)]; simp)
              clear hst
              go_wp2_with fail
              go_quiet ((go_at_call 59; exact Calls.quiet_of_same (ID.out _)))
              all_goals
                go_wp2_with fail
                go_roundw
                case rel => exact ⟨d + 1, by omega, by go_num, by rw [HST2.out], below_drewN hbz _⟩
                case measure => simp [intOf] <;> omega
        · obtain rfl : n = d := by omega
          have hbw := bel2' hbel hbz
          have hownz := ownsRow_below hown.out hbz
          have hll := HLL.out i hlt
          cases hb : leastB V rem i n
          · rw [hb] at hll
            have HR := Lib.hid (riseTo_no hll)
            clear hb hll
            go_wp2_with fail
            go_roundw
            case rel => exact ⟨i + 1, m, by omega, by go_num, by rw [HR.out]; exact hownz, hbw⟩
            case measure => simp [intOf] <;> omega
          · rw [hb] at hll
            have HR := Lib.hid (riseTo_yes hll)
            clear hb hll
            go_wp2_with (at_builtin; go_must (refine append_one erI rfl rfl hownz rfl rfl rfl (by simp [Value.oneCell']) (by omega) (by omega) hbw.size ?_); intro v' w1 hown1 _ hb1 hne1)
            go_roundw
            case rel =>
              refine ⟨i + 1, m + 1, by omega, by go_num, ?_, hbw.trans hb1⟩
              rw [HR.out, List.map_append]
              exact hown1
            case measure => simp [intOf] <;> omega
    · obtain rfl : n = i := by omega
      have HI : Hid (IntsAt wr u5 L) := Lib.hid (by have := ints_owned hown; rwa [HLA.out] at this)
      have HF := Lib.hid (Fresh.owned hown)
      clear hown
      go_wp2_with fail
      go_ret
      exact ⟨_, rfl, HI.out, HF.out, hbel⟩

end Go.Proofs.YtbnhgmikegdppaaGreat

/- The reference's way to a winner, and the frame of its rounds. -/
namespace Go.Proofs.Nums

/-- The last of the first k candidates that remains and wins; -1: none. -/
def winTo (whole : Bool) (gs : List Grp) (rem : List Bool) : Nat → Int
  | 0 => -1
  | k + 1 => if (remB rem (k : Nat) && wins whole gs rem (k : Nat)) = true then (k : Nat) else winTo whole gs rem k
theorem winTo_find (whole : Bool) (gs : List Grp) (rem : List Bool) (m : Nat) : winTo whole gs rem m = ((((List.range m).map fun i : Nat => (i : Int)).filter (remB rem)).reverse.find? (wins whole gs rem)).getD (-1) := by
  induction m with
  | zero => rfl
  | succ m ih =>
    rw [List.range_succ, List.map_append, List.filter_append, List.reverse_append]
    unfold winTo
    by_cases h1 : remB rem (m : Nat) = true
    · rw [h1, List.map_singleton, List.filter_cons_of_pos h1, List.filter_nil]
      by_cases h2 : wins whole gs rem (m : Nat) = true
      · rw [if_pos (by simp [h2])]
        simp [h2]
      · rw [if_neg (by simp [h2]), ih]
        simp [h2]
    · rw [if_neg (by simp [h1]), ih, List.map_singleton, List.filter_cons_of_neg h1, List.filter_nil]
      simp
theorem winTo_all {whole : Bool} {gs : List Grp} {rem : List Bool} (hp : PosG gs) : winTo whole gs rem rem.length = ((aliveS rem).find? (wins whole gs rem)).getD (-1) := by
  rw [winTo_find, ← wins_rev hp]
  rfl
theorem winTo_off {whole : Bool} {gs : List Grp} {rem : List Bool} {k : Nat} (h : rem.getD k false = false) : winTo whole gs rem (k + 1) = winTo whole gs rem k := by
  show (if _ then _ else _) = _
  rw [if_neg]
  unfold remB
  rw [Int.toNat_natCast, h]
  simp
theorem winTo_on {whole : Bool} {gs : List Grp} {rem : List Bool} {k : Nat} (h : rem.getD k false = true) (hk : k < rem.length) : winTo whole gs rem (k + 1) = if ((!whole && decide (quotaS gs rem ≤ (votesS gs rem).getD k 0)) || decide ((aliveS rem).length = 1)) = true then (k : Int) else winTo whole gs rem k := by
  have e : remB rem (k : Nat) = true := by unfold remB; rw [Int.toNat_natCast, h]; simp
  have hv := votes_get (gs := gs) (rem := rem) (c := (k : Int)) (by omega) (by omega)
  rw [Int.toNat_natCast] at hv
  rw [hv]
  show (if _ then _ else _) = _
  rw [e, Bool.true_and]
  rfl
/-- The row of weights on the way. -/
def keepTo (rem : List Bool) (k : Nat) : List Int := keepS (rem.take k) ++ List.replicate (rem.length - k) 0
theorem keepTo_none (rem : List Bool) : keepTo rem 0 = List.replicate rem.length 0 := by unfold keepTo; simp [keepS]
theorem keepTo_all (rem : List Bool) : keepTo rem rem.length = keepS rem := by unfold keepTo; simp
theorem keepTo_snoc {rem : List Bool} {k : Nat} (h : k < rem.length) : keepS (rem.take (k + 1)) = keepS (rem.take k) ++ [if rem.getD k false = true then 1 else 0] := by
  rw [List.take_succ_eq_append_getElem h, List.getD_eq_getElem?_getD, List.getElem?_eq_getElem h]
  unfold keepS
  rw [List.map_append]
  rfl
theorem keepTo_on {rem : List Bool} {k : Nat} (hk : k < rem.length) (h : rem.getD k false = true) : (keepTo rem k).set k 1 = keepTo rem (k + 1) := by
  have hl : (keepS (rem.take k)).length = k := by rw [keep_len, List.length_take]; omega
  unfold keepTo
  rw [List.set_append_right _ _ (by omega), hl, Nat.sub_self, show rem.length - k = (rem.length - (k + 1)) + 1 by omega, List.replicate_succ, List.set_cons_zero, keepTo_snoc hk, h, if_pos rfl, List.append_assoc]
  rfl
theorem keepTo_off {rem : List Bool} {k : Nat} (hk : k < rem.length) (h : rem.getD k false = false) : keepTo rem k = keepTo rem (k + 1) := by
  unfold keepTo
  rw [keepTo_snoc hk, h, show rem.length - k = (rem.length - (k + 1)) + 1 by omega, List.replicate_succ, List.append_assoc]
  rfl
theorem keep_rng {rem : List Bool} : ∀ y ∈ keepS rem, 0 ≤ y ∧ y ≤ 1000000 := fun y hy => by
  unfold keepS at hy
  obtain ⟨b, _, rfl⟩ := List.mem_map.1 hy
  cases b <;> decide

end Go.Proofs.Nums
namespace Go.Proofs.YtbnhgmikegdppaaGreat
open Go.RowKit Go.Proofs.Kit Go.Proofs.Nums

theorem OwnBool.off {w w' : World} {base g n : Nat} {o : List Bool} (h : OwnBool w base g n o) (hw : w'.heap[g]? = w.heap[g]?) : OwnBool w' base g n o :=
  ⟨h.1, ownsRow_block h.2 fun g' hg' => by
    have e : g = g' := by simpa [Value.ownBlock] using hg'
    subst e
    exact hw⟩
/-- The numbers of a round from the five calls that make them. -/
theorem irv_made {w5 w6 w7 w8 w9 w10 : World} {va vb : Value} {p1 p2 p3 p4 p5 p6 : Option Addr} {l1 k1 l2 k2 l3 k3 l4 k4 l5 k5 l6 k6 : Nat} {gs : List Grp} {rem : List Bool} {q rs : Int}
    (ha : Made w5.heap.size (fun w => RatsAt w va (wholesS (votesS gs rem))) w6) (hb : Made w6.heap.size (fun w => RatsAt w vb (wholesS (keepS rem))) w7)
    (hq : Made w7.heap.size (fun w => ratR w [.bool false, .slice p1 l1 k1, .slice p2 l2 k2] (wholeQ q)) w8) (he : Made w8.heap.size (fun w => ratR w [.bool false, .slice p3 l3 k3, .slice p4 l4 k4] (wholeQ rs)) w9)
    (hs : Made w9.heap.size (fun w => ratR w [.bool false, .slice p5 l5 k5, .slice p6 l6 k6] (wholeQ 0)) w10)
    (b6 : Below w5.heap.size w5 w6) (b7 : Below w6.heap.size w6 w7) (b8 : Below w7.heap.size w7 w8) (b9 : Below w8.heap.size w8 w9) (b10 : Below w9.heap.size w9 w10) (e1 : quotaS gs rem = q) (e2 : restS gs rem = rs) :
    Made w5.heap.size (fun w => RndH w va vb (.slice p1 l1 k1) (.slice p2 l2 k2) (.slice p3 l3 k3) (.slice p4 l4 k4) (.slice p5 l5 k5) (.slice p6 l6 k6) (mkR gs rem [] [] [])) w10 := by
  have z6 := b6.size
  have z7 := b7.size
  have z8 := b8.size
  have z9 := b9.size
  have h1 := (((ha.keep b7).keep b8).keep b9).keep b10
  have h2 := ((((hb.keep b8).keep b9).keep b10)).mono z6
  have h3 := ((hq.keep b9).keep b10).mono (Nat.le_trans z6 z7)
  have h4 := (he.keep b10).mono (Nat.le_trans z6 (Nat.le_trans z7 z8))
  have h5 := hs.mono (Nat.le_trans z6 (Nat.le_trans z7 (Nat.le_trans z8 z9)))
  exact (h1.both (h2.both (h3.both (h4.both h5)))).imp fun w' g => ⟨g.1, g.2.1, by rw [show (mkR gs rem [] [] []).quota = q from e1]; exact g.2.2.1, by rw [show (mkR gs rem [] [] []).exh = rs from e2]; exact g.2.2.2.1, g.2.2.2.2⟩
theorem irv_el {wr W9 : World} {E rb : Nat} {t2 : TypeId} {k2 : Nat} {β : Type} {R2 : World → List Value → β → Prop} {o2 : Nat → Prop} {v2 : Value} {l2 : List β} {c2 : List (List Value)} {S : World → Prop}
    (h2 : Lst2 R2 E o2 t2 k2 v2 wr l2 c2) (hE : E ≤ wr.heap.size) (h : On (fun k => wr.heap.size ≤ k ∧ k < W9.heap.size ∧ k ≠ rb) S W9) :
    On (fun b => E ≤ b ∧ b < W9.heap.size ∧ v2.ownBlock ≠ some b ∧ ¬ False) S W9 :=
  On.mono h fun b hb => ⟨by omega, hb.2.1, fun e => by have := (h2.lt b e).2; omega, fun e => e⟩
/-- The round with its excluded one, before it is appended. -/
theorem irv_x10 {wr w9 Wz W10 : World} {rb B0 : Nat} {a b q1 q2 e1 e2 s1 s2 vti : Value} {gs : List Grp} {rem : List Bool} {x : Int} {ti : List Int} {t1 : TypeId}
    (hrb : w9.heap.size = rb) (hB0 : wr.heap.size ≤ B0) (hrbw : wr.heap.size ≤ rb) (hM : Made B0 (fun w => RndH w a b q1 q2 e1 e2 s1 s2 (mkR gs rem [] [] [])) w9) (hsame : ∀ k, k < rb → Wz.heap[k]? = w9.heap[k]?)
    (hK : Blk rb #[a, b, .bool false, q1, q2, .bool false, e1, e2, .bool false, s1, s2, .slice none 0 0, .slice none 0 0, vti] Wz) (hti : Made (rb + 1) (fun w => IntsAt w vti ti) Wz) (hbz : Below wr.heap.size wr Wz)
    (hW : (Wz.setCell ⟨rb, 12, none⟩ (.slice (some ⟨Wz.heap.size, 0, none⟩) 1 1)).alloc (.cells #[.int .i64 x] t1) = W10) :
    Blk rb #[a, b, .bool false, q1, q2, .bool false, e1, e2, .bool false, s1, s2, .slice none 0 0, .slice (some ⟨Wz.heap.size, 0, none⟩) 1 1, vti] W10 ∧ Below wr.heap.size wr W10 ∧
    On (fun k => wr.heap.size ≤ k ∧ k < W10.heap.size ∧ k ≠ rb) (fun w => rndR w [a, b, .bool false, q1, q2, .bool false, e1, e2, .bool false, s1, s2, .slice none 0 0, .slice (some ⟨Wz.heap.size, 0, none⟩) 1 1, vti] (mkR gs rem [] [x] ti)) W10 := by
  subst hW
  have z1 := hbz.size
  have z4 := hK.1
  have hs : (Wz.setCell ⟨rb, 12, none⟩ (.slice (some ⟨Wz.heap.size, 0, none⟩) 1 1)).heap.size = Wz.heap.size := World.size_setCell _ _ _
  have hbs : Below wr.heap.size wr (Wz.setCell ⟨rb, 12, none⟩ (.slice (some ⟨Wz.heap.size, 0, none⟩) 1 1)) := hbz.setCell (p := ⟨rb, 12, none⟩) hrbw _
  have hsame2 : ∀ k, k < Wz.heap.size → k ≠ rb → ((Wz.setCell ⟨rb, 12, none⟩ (.slice (some ⟨Wz.heap.size, 0, none⟩) 1 1)).alloc (.cells #[.int .i64 x] t1)).heap[k]? = Wz.heap[k]? := fun k hk hne => by
    rw [((Below.refl (Wz.setCell ⟨rb, 12, none⟩ (.slice (some ⟨Wz.heap.size, 0, none⟩) 1 1)).heap.size _).alloc (Nat.le_refl _) (.cells #[.int .i64 x] t1)).block k (by rw [hs]; exact hk), Below.heap_setCell _ _ _ _ (by exact hne)]
  refine ⟨(blk_put hK (o := 12) (by simp) _).alloc _, hbs.alloc (by rw [hs]; exact z1) _, ?_⟩
  have o1 := On.step (w' := (Wz.setCell ⟨rb, 12, none⟩ (.slice (some ⟨Wz.heap.size, 0, none⟩) 1 1)).alloc (.cells #[.int .i64 x] t1)) hM fun k hk => by rw [hsame2 k (by omega) (by omega), hsame k (by omega)]
  have o2 := RowAt.on_own (one_row (Wz.setCell ⟨rb, 12, none⟩ (.slice (some ⟨Wz.heap.size, 0, none⟩) 1 1)) x t1)
  rw [hs] at o2
  have o3 := On.step (w' := (Wz.setCell ⟨rb, 12, none⟩ (.slice (some ⟨Wz.heap.size, 0, none⟩) 1 1)).alloc (.cells #[.int .i64 x] t1)) hti fun k hk => hsame2 k hk.2 (by omega)
  have o1' := On.mono (G := fun k => wr.heap.size ≤ k ∧ k < ((Wz.setCell ⟨rb, 12, none⟩ (.slice (some ⟨Wz.heap.size, 0, none⟩) 1 1)).alloc (.cells #[.int .i64 x] t1)).heap.size ∧ k ≠ rb) o1 fun k hk => ⟨by omega, by simp; omega, by omega⟩
  have o2' := On.mono (G := fun k => wr.heap.size ≤ k ∧ k < ((Wz.setCell ⟨rb, 12, none⟩ (.slice (some ⟨Wz.heap.size, 0, none⟩) 1 1)).alloc (.cells #[.int .i64 x] t1)).heap.size ∧ k ≠ rb) o2 fun k hk => by
    have e : Wz.heap.size = k := by simpa [Value.ownBlock] using hk
    exact ⟨by omega, by simp; omega, by omega⟩
  have o3' := On.mono (G := fun k => wr.heap.size ≤ k ∧ k < ((Wz.setCell ⟨rb, 12, none⟩ (.slice (some ⟨Wz.heap.size, 0, none⟩) 1 1)).alloc (.cells #[.int .i64 x] t1)).heap.size ∧ k ≠ rb) o3 fun k hk => ⟨by omega, by simp; omega, by omega⟩
  exact (o1'.both (o2'.both o3')).imp fun w' g => ⟨_, _, _, _, _, _, _, _, _, _, _, rfl, ⟨g.1.votes, g.1.keep, g.1.quota, g.1.exh, g.1.sur⟩, RowAt.nil _, g.2.1, g.2.2⟩

end Go.Proofs.YtbnhgmikegdppaaGreat

/- The reference's Irv: the walk. -/
namespace Go.Proofs.YtbnhgmikegdppaaGreat
open Go.RowKit Go.Proofs.Kit Go.Proofs.Nums

theorem irv_nil3 {b : Nat} {w : World} {x0 x1 x2 x3 x4 x5 x6 x7 x8 x9 x10 x11 x12 x13 : Value} (h : Blk b #[x0, x1, x2, x3, x4, x5, x6, x7, x8, x9, x10, x11, x12, x13] w) :
    Blk b #[x0, x1, x2, x3, x4, x5, x6, x7, x8, x9, x10, .slice none 0 0, .slice none 0 0, .slice none 0 0] (((w.setCell ⟨b, 11, none⟩ (.slice none 0 0)).setCell ⟨b, 12, none⟩ (.slice none 0 0)).setCell ⟨b, 13, none⟩ (.slice none 0 0)) :=
  blk_put (blk_put (blk_put h (o := 11) (by simp) _) (o := 12) (by simp) _) (o := 13) (by simp) _
theorem whole_z (x : Int) (h0 : 0 ≤ x) (h1 : x ≤ 1000000) (w : World) :
    Calls Tryz.prog 36 #[.int .i64 x] w fun e w' => ∃ p l k p' l' k', e = .returned (.agg #[.bool false, .slice p l k, .slice p' l' k']) ∧ Made w.heap.size (fun w => ratR w [.bool false, .slice p l k, .slice p' l' k'] (wholeQ x)) w' ∧ Below w.heap.size w w' := by
  obtain ⟨n, rfl⟩ : ∃ n : Nat, x = n := ⟨x.toNat, by omega⟩
  exact whole_s n (by omega) w

set_option maxRecDepth 100000 in
set_option maxHeartbeats 16000000 in
theorem rirv_c {C : ConP} {vg vl : Value} {gs : List Grp} {lots : List Int} {w : World} (whole : Bool) (hg : PileAt w vg gs) (hl : IntsAt w vl lots) (hok : OkC C gs lots) :
    Calls Tryz.prog 13 #[conC C, vg, vl, .bool whole] w fun e w' => ∃ vr vw x, e = .returned (.tuple #[.agg #[.int .i64 1, .int .i64 1, .int .i64 0, .int .i64 C.n, vr, vw], .int .i64 0]) ∧
      Made w.heap.size (fun w => SliceOf rndR 14 w vr (countS whole (brkS C.ties lots) gs C.n (List.replicate C.n true) [])) w' ∧ Made w.heap.size (fun w => IntsAt w vw [x]) w' ∧ Hid (∃ r ∈ (countS whole (brkS C.ties lots) gs C.n (List.replicate C.n true) []).getLast?, r.el = [x]) ∧ Below w.heap.size w w' := by
  have hn1 := hok.n1
  have hn7 := hok.n7
  have FT0 := fun wq (h : Below w.heap.size w wq) => rfit_c (nm := C.nm) (p := C.p) (n := C.n) (c := C.c) (cm := C.cm) (seats := C.seats) (ranks := C.ranks) (digits := C.digits) (ties := C.ties) (over := C.over) (skip := C.skip) (by omega) (hg.keep h) (hl.keep h)
  have hz : fitS C.n C.cm C.seats C.digits C.ties gs lots = 0 := fit_iff.2 hok
  rw [hz] at FT0
  have HOK := Lib.hid hok
  have HG := Lib.hid hg
  have HL := Lib.hid hl
  have HP7 := Lib.hid hok.seven
  obtain ⟨pg, ng, cg, rfl⟩ : ∃ p n c, vg = .slice p n c := by obtain ⟨p, c, e⟩ := hg.shp; exact ⟨_, _, _, e⟩
  obtain ⟨pl, nl, cl, rfl⟩ : ∃ p n c, vl = .slice p n c := by obtain ⟨p, c, e⟩ := hl.shape; exact ⟨_, _, _, e⟩
  unfold conC
  have FT : Hid (∀ wq, Below w.heap.size w wq → Calls Tryz.prog 30 #[.int .i64 1, conV C.nm C.p C.n C.c C.cm C.seats C.ranks C.digits C.ties C.over C.skip, .slice pg ng cg, .slice pl nl cl] wq fun e w' => e = .returned (.int .i64 0) ∧ Below wq.heap.size wq w') := Lib.hid FT0
  have hbX : Below w.heap.size w (w.alloc (.cells #[C.nm, .slice C.p C.n C.c, .int .i64 C.cm, .int .i64 C.seats, .int .i64 C.ranks, .int .i64 C.digits, .int .i64 C.ties, .int .i64 C.over, .int .i64 C.skip] 24)) := (Below.refl _ _).alloc (Nat.le_refl _) _
  have hbY := hbX.alloc hbX.size (.cells #[.int .i64 0, .int .i64 0, .int .i64 0, .int .i64 0, .slice none 0 0, .slice none 0 0] 37)
  have KX := (Blk.new w #[C.nm, .slice C.p C.n C.c, .int .i64 C.cm, .int .i64 C.seats, .int .i64 C.ranks, .int .i64 C.digits, .int .i64 C.ties, .int .i64 C.over, .int .i64 C.skip] 24).alloc (.cells #[.int .i64 0, .int .i64 0, .int .i64 0, .int .i64 0, .slice none 0 0, .slice none 0 0] 37)
  have KR := Blk.new (w.alloc (.cells #[C.nm, .slice C.p C.n C.c, .int .i64 C.cm, .int .i64 C.seats, .int .i64 C.ranks, .int .i64 C.digits, .int .i64 C.ties, .int .i64 C.over, .int .i64 C.skip] 24)) #[.int .i64 0, .int .i64 0, .int .i64 0, .int .i64 0, .slice none 0 0, .slice none 0 0] 37
  rw [show (w.alloc (.cells #[C.nm, .slice C.p C.n C.c, .int .i64 C.cm, .int .i64 C.seats, .int .i64 C.ranks, .int .i64 C.digits, .int .i64 C.ties, .int .i64 C.over, .int .i64 C.skip] 24)).heap.size = w.heap.size + 1 by simp] at KR
  obtain ⟨X, hX⟩ : ∃ X, (w.alloc (.cells #[C.nm, .slice C.p C.n C.c, .int .i64 C.cm, .int .i64 C.seats, .int .i64 C.ranks, .int .i64 C.digits, .int .i64 C.ties, .int .i64 C.over, .int .i64 C.skip] 24)).alloc (.cells #[.int .i64 0, .int .i64 0, .int .i64 0, .int .i64 0, .slice none 0 0, .slice none 0 0] 37) = X := ⟨_, rfl⟩
  have hXs : X.heap.size = w.heap.size + 2 := by rw [← hX]; simp
  have HXS := Lib.hid hXs
  rw [hX] at hbY KX KR
  obtain ⟨x0, x1, x2, x3, x4, x5, x6, x7, x8⟩ := nine_cells KX
  have HKX := Lib.hid KX
  have HKR := Lib.hid KR
  have AL := Lib.hid (fun wq => rall_c C.n hn7 wq)
  unfold conV at FT ⊢
  clear hg hl hok KX KR hz FT0 hXs hbX
  go_enter Tryz.func13, Tryz.ntmps13
  go_wp2_with (first
    | (go_at_call 30; ((with_reducible refine (FT.out _ hbY).mono ?_); rintro _ w1 ⟨rfl, hb1⟩; have hB1 := bel2' hbY hb1; obtain ⟨y0, y1, y2, y3, y4, y5, y6, y7, y8⟩ := nine_cells (HKX.out.keep hb1); have KT1 := Blk.new w1 #[.int .i64 1, .int .i64 1, .int .i64 0, .int .i64 C.n, .slice none 0 0, .slice none 0 0] 37; have hb1T : Below w1.heap.size w1 (w1.alloc (.cells #[.int .i64 1, .int .i64 1, .int .i64 0, .int .i64 C.n, .slice none 0 0, .slice none 0 0] 37)) := below_al (Below.refl _ _) _))
    | (go_at_call 31; ((with_reducible refine (AL.out _).mono ?_); rintro _ w2 ⟨g, rfl, hO2, hg2, hb2⟩)))
  have hb12 := bel2' hb1T hb2
  have KT := KT1.keep hb2
  have KX3 := HKX.out.keep (bel2' hb1 hb12)
  have KR3 := HKR.out.keep (bel2' hb1 hb12)
  have hbW := bel2' hB1 hb12
  have hs1 : (w1.alloc (.cells #[.int .i64 1, .int .i64 1, .int .i64 0, .int .i64 C.n, .slice none 0 0, .slice none 0 0] 37)).heap.size = w1.heap.size + 1 := by simp
  obtain ⟨T, hT⟩ : ∃ T, w1.heap.size = T := ⟨_, rfl⟩
  obtain ⟨R, hR⟩ : ∃ T, w.heap.size + 1 = T := ⟨_, rfl⟩
  obtain ⟨XB, hXB⟩ : ∃ T, w.heap.size = T := ⟨_, rfl⟩
  have hgl : g < w2.heap.size := (hO2.2.lt g (by rfl)).2
  have hw1X := hb1.size
  have hXs := HXS.out
  have hw21 := hb2.size
  obtain ⟨E, hE⟩ : ∃ E, w2.heap.size = E := ⟨_, rfl⟩
  have hEs : w.heap.size ≤ E := by omega
  have hgE : g < E := by omega
  have hTE : T < E := by omega
  have hRE : R < E := by omega
  have hXE : XB < E := by omega
  have hRT : ¬ R = T := by omega
  have hXT : ¬ XB = T := by omega
  have hXR : ¬ XB = R := by omega
  have hgT : ¬ g = T := by omega
  have hTg : ¬ T = g := by omega
  have hRg : ¬ R = g := by omega
  have hXg : ¬ XB = g := by omega
  have hg0 : w.heap.size ≤ g := by omega
  have hT0 : w.heap.size ≤ T := by omega
  have hR0 : w.heap.size ≤ R := by omega
  have hE3 : E ≤ w2.heap.size := by omega
  rw [hT] at KT ⊢
  rw [hR] at KR3 ⊢
  have KX3 : Blk XB #[C.nm, .slice C.p C.n C.c, .int .i64 C.cm, .int .i64 C.seats, .int .i64 C.ranks, .int .i64 C.digits, .int .i64 C.ties, .int .i64 C.over, .int .i64 C.skip] w2 := by rw [← hXB]; exact KX3
  have HXBw := Lib.hid hXB
  clear hE hT hR hw1X hXs hw21 y0 y1 y2 y3 y4 y5 y6 y7 y8 x0 x1 x2 x3 x4 x5 x6 x7 x8 hs1 hgl hb12 hb1T hg2 KT1
  rw [hXB]
  clear hXB
  go_loopw [14] (fun _ wr => ∃ m : Nat, ∃ rds : List Rnd, ∃ rem pt nt ct csr, Blk T #[.int .i64 1, .int .i64 1, .int .i64 0, .int .i64 C.n, .slice pt nt ct, .slice none 0 0] wr ∧ Blk R #[.int .i64 0, .int .i64 0, .int .i64 0, .int .i64 0, .slice none 0 0, .slice none 0 0] wr ∧ Blk XB #[C.nm, .slice C.p C.n C.c, .int .i64 C.cm, .int .i64 C.seats, .int .i64 C.ranks, .int .i64 C.digits, .int .i64 C.ties, .int .i64 C.over, .int .i64 C.skip] wr ∧ OwnBool wr g g C.n rem ∧ Lst2 rndR E (fun _ => False) 53 14 (.slice pt nt ct) wr rds csr ∧ Below w.heap.size w wr ∧ E ≤ wr.heap.size ∧
      Hid (countS whole (brkS C.ties lots) gs C.n (List.replicate C.n true) [] = rds ++ countS whole (brkS C.ties lots) gs (C.n - m) rem (rds.map Rnd.votes)) ∧ Hid ((aliveS rem).length + m = C.n ∧ 1 ≤ (aliveS rem).length ∧ rds.length = m ∧ nt = m)) (fun _ wr => 8 - roundsIn T wr)
  case atStart => exact ⟨0, [], List.replicate C.n true, none, 0, 0, [], KT, KR3, KX3, hO2, Lst2.nil _, hbW, hE3, Lib.hid (by rw [Nat.sub_zero]; rfl), Lib.hid ⟨by rw [alive_all_len]; rfl, by rw [alive_all_len]; exact hn1, rfl, rfl⟩⟩
  case round =>
    obtain ⟨m, rds, rem, pt, nt, ct, csr, hT, hR, hX, hO, hL3, hbel, hEr, hCN, hIN⟩ := hrel
    obtain ⟨wo, hwo⟩ : ∃ x, x = wr := ⟨_, rfl⟩
    rw [← hwo] at hT hR hX hO hL3 hbel hEr ⊢
    clear hwo
    obtain ⟨hi1, hi2, hi4, hi5⟩ := hIN.out
    subst hi5
    have hrl : rem.length = C.n := hO.1
    have HRL := Lib.hid hrl
    have HRD := Lib.hid hi4
    have HM1 : Hid (roundsIn T wo = nt) := Lib.hid (by
      have := hT.2.1 4
      unfold roundsIn
      rw [this]
      rfl)
    have hpl := HOK.out.pile
    have hvr := votes_rng (gs := gs) (rem := rem) hpl
    have hrr := rest_rng (gs := gs) (rem := rem) hpl
    have hvl : (votesS gs rem).length = C.n := by rw [votes_len, hrl]
    have HVL := Lib.hid hvl
    obtain ⟨al, hal⟩ : ∃ n, (aliveS rem).length = n := ⟨_, rfl⟩
    have HAL := Lib.hid hal
    have HLA : Hid ((lowS gs rem).length ≤ (aliveS rem).length) := Lib.hid (by unfold lowS extA; exact List.length_filter_le _ _)
    obtain ⟨q, hq⟩ : ∃ q, quotaS gs rem = q := ⟨_, rfl⟩
    obtain ⟨rs, hrs⟩ : ∃ q, restS gs rem = q := ⟨_, rfl⟩
    obtain ⟨S, hS⟩ : ∃ q, (votesS gs rem).sum = q := ⟨_, rfl⟩
    have HQ := Lib.hid hq
    have HRS := Lib.hid hrs
    have hne : aliveS rem ≠ [] := fun e => by rw [e] at hi2; simp at hi2
    have hS0 : 0 ≤ S ∧ S ≤ 100000 := by
      have h1 := votes_rest gs rem
      have h3 : sumF (fun _ => true) gs ≤ 100000 := hpl.tot
      have h4 : 0 ≤ (votesS gs rem).sum := by rw [votes_sum]; exact sumF_nn hpl.pos
      omega
    have hqS : q = S / 2 + 1 := by rw [← hq, ← hS]; rfl
    rw [hrs] at hrr
    obtain ⟨q0, hq0⟩ : ∃ z, S.tdiv 2 = z := ⟨_, rfl⟩
    have hq2 : q0 = S / 2 := by rw [← hq0, Int.tdiv_eq_ediv_of_nonneg hS0.1]
    have hw1 : IntKind.i64.wrap q0 = q0 := w64 (by omega) (by omega)
    have hw2 : q0 + 1 = q := by omega
    have hw3 : IntKind.i64.wrap q = q := w64 (by omega) (by omega)
    have hqr : 1 ≤ q ∧ q ≤ 50001 := by omega
    have FI : Hid (Calls Tryz.prog 32 #[.slice pg ng cg, .slice (some ⟨g, 0, none⟩) C.n C.n] wo fun e w' => ∃ p c, e = .returned (.tuple #[.slice p C.n c, .int .i64 rs]) ∧ IntsAt w' (.slice p C.n c) (votesS gs rem) ∧ Fresh wo.heap.size (.slice p C.n c) ∧ Below wo.heap.size wo w') := Lib.hid (by
      refine (rfirst_c (HG.out.keep hbel) hO.read HP7.out (by rw [hrl]; exact hn1) (by rw [hrl]; exact hn7)).mono ?_
      rintro e w' ⟨v', rfl, g1, g2, g3⟩
      obtain ⟨p, c, rfl⟩ := g1.shape
      rw [hvl] at g1 g2 ⊢
      rw [hrs]
      exact ⟨p, c, rfl, g1, g2, g3⟩)
    have SU : Hid (∀ wq p c, IntsAt wq (.slice p C.n c) (votesS gs rem) → Calls Tryz.prog 33 #[.slice p C.n c] wq fun e w' => e = .returned (.int .i64 S) ∧ wq = w') := Lib.hid (fun wq p c h => by
      rw [← hS]
      exact rsum_c h hvr (by rw [hvl]; exact hn7))
    have WQ : Hid (∀ w, Calls Tryz.prog 36 #[.int .i64 q] w fun e w' => ∃ p l k p' l' k', e = .returned (.agg #[.bool false, .slice p l k, .slice p' l' k']) ∧ Made w.heap.size (fun w => ratR w [.bool false, .slice p l k, .slice p' l' k'] (wholeQ q)) w' ∧ Below w.heap.size w w') := Lib.hid (fun w => whole_z q (by omega) (by omega) w)
    have WE : Hid (∀ w, Calls Tryz.prog 36 #[.int .i64 rs] w fun e w' => ∃ p l k p' l' k', e = .returned (.agg #[.bool false, .slice p l k, .slice p' l' k']) ∧ Made w.heap.size (fun w => ratR w [.bool false, .slice p l k, .slice p' l' k'] (wholeQ rs)) w' ∧ Below w.heap.size w w') := Lib.hid (fun w => whole_z rs (by omega) (by omega) w)
    have WZ : Hid (∀ w, Calls Tryz.prog 36 #[.int .i64 0] w fun e w' => ∃ p l k p' l' k', e = .returned (.agg #[.bool false, .slice p l k, .slice p' l' k']) ∧ Made w.heap.size (fun w => ratR w [.bool false, .slice p l k, .slice p' l' k'] (wholeQ 0)) w' ∧ Below w.heap.size w w') := Lib.hid (fun w => whole_z 0 (by omega) (by omega) w)
    have HN1 : Hid ((rds.length + 1) * 288 ≤ 140737488355328) := Lib.hid (by omega)
    have HN2 : Hid (rds.length + 1 ≤ 9223372036854775807) := Lib.hid (by omega)
    have HA1 : Hid ((aliveS rem).find? (wins whole gs rem) = none → 1 < (aliveS rem).length) := Lib.hid (fun h => by
      by_cases h1 : (aliveS rem).length = 1
      · obtain ⟨a, ha⟩ := List.length_eq_one_iff.1 h1
        have hw : wins whole gs rem a = true := by unfold wins; rw [h1]; simp
        rw [ha] at h
        simp [hw] at h
      · omega)
    have HWT := Lib.hid (winTo_all (whole := whole) (rem := rem) hpl.pos)
    obtain ⟨j, hj⟩ : ∃ j, C.n - nt = j + 1 := ⟨C.n - nt - 1, by omega⟩
    clear hq hrs hS hqS hq2 hvr hvl hpl
    go_wp2_with (first
      | (go_at_call 32; ((with_reducible refine FI.out.mono ?_); rintro _ w3 ⟨p4, c4, rfl, h4, hf4, hb3⟩))
      | (at_make; go_must (refine make_any erI rfl rfl rfl rfl (by omega) (by omega) (by omega) ?_); intro w4 hown4 hb4; rw [show ((C.n : Int)).toNat = C.n by omega] at hown4 ⊢; have own4 := OwnInt.made hown4; clear hown4; have hb34 := hb4.mono (Nat.le_refl _); have h44 := h4.keep hb4)
      | (go_at_call 33; ((with_reducible refine (SU.out _ _ _ h44).mono ?_); rintro _ w5 ⟨rfl, rfl⟩)))
    have BK : Hid (∀ wq, Below w3.heap.size w3 wq → Below wo.heap.size wo wq ∧ IntsAt wq (.slice p4 C.n c4) (votesS gs rem) ∧ OwnBool wq g g C.n rem) := Lib.hid (fun wq h => ⟨bel2' hb3 h, h4.keep h, hO.keep (bel2' hb3 h)⟩)
    obtain ⟨K, hK⟩ : ∃ K, w3.heap.size = K := ⟨_, rfl⟩
    rw [hK] at own4 hb4 BK ⊢
    rw [← HRL.out, ← keepTo_none, HRL.out] at own4
    have HKE := Lib.hid hK
    clear hK hb34 h44 h4 hf4 hb3
    go_loopw [18, 19] (fun wv iv wq => ∃ k : Nat, k ≤ C.n ∧ iv = .int .i64 k ∧ wv = .int .i64 (winTo whole gs rem k) ∧ OwnInt wq K K C.n (keepTo rem k) ∧ Below K w3 wq) (fun _ iv _ => C.n - (intOf iv).toNat)
    case atStart => exact ⟨0, by omega, rfl, rfl, own4, hb4⟩
    case round =>
    obtain ⟨k, hk, rfl, rfl, hOI, hbk⟩ := hrel
    by_cases hlt : k < C.n
    · have hltz : (k : Int) < (C.n : Int) := by omega
      obtain ⟨hbw, hvk, hOk⟩ := BK.out _ hbk
      have rk := hOk.cell hlt
      cases hb : rem.getD k false
      · rw [hb] at rk
        have e1 := winTo_off (whole := whole) (gs := gs) hb
        have e2 := keepTo_off (by rw [HRL.out]; exact hlt) hb
        have E1 := Lib.hid e1
        rw [e2] at hOI
        clear e1 e2 hb hvk hOk
        go_wp2_with fail
        go_roundw
        case rel => exact ⟨k + 1, by omega, by go_num, by rw [E1.out], hOI, hbk⟩
        case measure => simp [intOf] <;> omega
      · rw [hb] at rk
        have e1 := winTo_on (whole := whole) (gs := gs) hb (by rw [HRL.out]; exact hlt)
        have e2 := keepTo_on (by rw [HRL.out]; exact hlt) hb
        have kc := hOI.cell hlt
        have kf := hOI.free k
        obtain ⟨hO1, hb1⟩ := hOI.put k 1
        rw [e2] at hO1
        have hbk2 := hbk.trans hb1
        obtain ⟨hbw2, hvk2, hOk2⟩ := BK.out _ hbk2
        obtain ⟨gb, go, rfl, _, _, vc⟩ := hvk2.cellAt k (by rw [HVL.out]; exact hlt)
        obtain ⟨y, hy⟩ : ∃ y, (votesS gs rem).getD k 0 = y := ⟨_, rfl⟩
        rw [hy] at vc e1
        rw [HQ.out, HAL.out] at e1
        have SZ := Lib.hid (size_c hOk2.read (by rw [HRL.out]; exact hn7))
        rw [HAL.out] at SZ
        have E1 := Lib.hid e1
        have HO1 := Lib.hid hO1
        have HBK2 := Lib.hid hbk2
        clear e1 e2 hb hvk hOk hy hOI hO1 hbk hbk2 hbw hbw2 hvk2 hOk2 hb1
        by_cases hqy : q ≤ y <;> by_cases ha1 : al = 1 <;> cases whole
        all_goals
          first
            | have hqd : decide (q ≤ y) = true := decide_eq_true hqy
            | have hqd : decide (q ≤ y) = false := decide_eq_false hqy
          first
            | have had : ((al : Int) == 1) = true := by rw [beq_iff_eq]; omega
            | have had : ((al : Int) == 1) = false := by rw [beq_eq_false_iff_ne]; omega
          first
            | have hae : decide (al = 1) = true := decide_eq_true ha1
            | have hae : decide (al = 1) = false := decide_eq_false ha1
          rw [hqd, hae] at E1
          simp only [Bool.not_true, Bool.not_false, Bool.true_and, Bool.false_and, Bool.or_true, Bool.or_false, if_true, if_false, Bool.false_eq_true] at E1
          clear ha1 hae
          go_wp2_with (go_at_call 34; ((with_reducible refine SZ.out.mono ?_); rintro _ w79 ⟨rfl, rfl⟩))
          go_roundw
          case rel => exact ⟨k + 1, by omega, by go_num, by rw [E1.out], HO1.out, HBK2.out⟩
          case measure => simp [intOf] <;> omega
    · have hkn : k = C.n := by omega
      have hltz : ¬ (k : Int) < (C.n : Int) := by omega
      rw [hkn, ← HRL.out, keepTo_all, HRL.out] at hOI
      have hwt : winTo whole gs rem k = ((aliveS rem).find? (wins whole gs rem)).getD (-1) := by rw [hkn, ← HWT.out, HRL.out]
      obtain ⟨w5, hw5⟩ : ∃ x, x = wr := ⟨_, rfl⟩
      rw [← hw5] at hOI hbk ⊢
      clear hw5
      obtain ⟨hbw, hvk, hOk⟩ := BK.out _ hbk
      have HB5 := Lib.hid hbw
      have HV5 := Lib.hid hvk
      have HO5 := Lib.hid hOI
      have WV : Hid (∀ wq, Below w5.heap.size w5 wq → Calls Tryz.prog 35 #[.slice p4 C.n c4] wq fun e w' => ∃ v', e = .returned v' ∧ (∃ css, RLst wq.heap.size v' w' (wholesS (votesS gs rem)) css) ∧ Below wq.heap.size wq w') := Lib.hid (fun wq h => wholes_c (HV5.out.keep h) (fun x hx => by have := votes_rng (gs := gs) (rem := rem) HOK.out.pile x hx; omega) (by rw [HVL.out]; omega))
      have WK : Hid (∀ wq, Below w5.heap.size w5 wq → Calls Tryz.prog 35 #[.slice (some ⟨K, 0, none⟩) C.n C.n] wq fun e w' => ∃ v', e = .returned v' ∧ (∃ css, RLst wq.heap.size v' w' (wholesS (keepS rem)) css) ∧ Below wq.heap.size wq w') := Lib.hid (fun wq h => wholes_c (HO5.out.keep h).read keep_rng (by rw [keep_len, HRL.out]; omega))
      clear hbw hvk hOI hbk hOk hkn BK own4 hb4
      cases hfi : (aliveS rem).find? (wins whole gs rem) with
      | some x =>
        rw [hfi, Option.getD_some] at hwt
        rw [hwt]
        clear hwt
        have hxa := mem_alive.1 (List.mem_of_find?_eq_some hfi)
        have hxz : (0 : Int) ≤ x := (remB_lt hxa).1
        have HW := Lib.hid hfi
        clear hfi hxa
        go_wp2_with (first
          | (go_at_call 35; ((with_reducible refine (WV.out _ (Below.refl _ _)).mono ?_); rintro _ w6 ⟨v6, rfl, ⟨css6, hR6⟩, hb6⟩; obtain ⟨ax, ay, az, rfl⟩ := own_sl hR6.own; have M6 := Lib.hid (hR6.made (Nat.le_refl _) (Nat.le_refl _)); clear hR6))
          | (go_at_call 35; ((with_reducible refine (WK.out _ hb6).mono ?_); rintro _ w7 ⟨v7, rfl, ⟨css7, hR7⟩, hb7⟩; obtain ⟨dx, dy, dz, rfl⟩ := own_sl hR7.own; have M7 := Lib.hid (hR7.made (Nat.le_refl _) (Nat.le_refl _)); clear hR7))
          | (go_at_call 36; ((with_reducible refine (WQ.out _).mono ?_); rintro _ w8 ⟨qx, qy, qz, rx, ry, rz, rfl, m8, hb8⟩; have M8 := Lib.hid m8; clear m8))
          | (go_at_call 36; ((with_reducible refine (WE.out _).mono ?_); rintro _ w9 ⟨ex, ey, ez, fx, fy, fz, rfl, m9, hb9⟩; have M9 := Lib.hid m9; clear m9))
          | (go_at_call 36; ((with_reducible refine (WZ.out _).mono ?_); rintro _ w10 ⟨sx, sy, sz, tx, ty, tz, rfl, m10, hb10⟩; have HM := Lib.hid (irv_made M6.out M7.out M8.out M9.out m10 hb6 hb7 hb8 hb9 hb10 HQ.out HRS.out); have hb510 := bel2' (bel2' (bel2' (bel2' hb6 hb7) hb8) hb9) hb10; have hbo10 := bel2' HB5.out hb510; have h410 := HV5.out.keep hb510; obtain ⟨rb, hrb⟩ : ∃ K, w10.heap.size = K := ⟨_, rfl⟩; have hrbw : wo.heap.size ≤ rb := (by have := hbo10.size; omega); have hb1011 : Below w10.heap.size w10 (w10.alloc (.cells #[.slice ax ay az, .slice dx dy dz, .bool false, .slice qx qy qz, .slice rx ry rz, .bool false, .slice ex ey ez, .slice fx fy fz, .bool false, .slice sx sy sz, .slice tx ty tz, .slice none 0 0, .slice none 0 0, .slice none 0 0] 53)) := below_al (Below.refl _ _) _; have KB11 := Blk.new w10 #[.slice ax ay az, .slice dx dy dz, .bool false, .slice qx qy qz, .slice rx ry rz, .bool false, .slice ex ey ez, .slice fx fy fz, .bool false, .slice sx sy sz, .slice tx ty tz, .slice none 0 0, .slice none 0 0, .slice none 0 0] 53; obtain ⟨W10a, hW10a⟩ : ∃ W, w10.alloc (.cells #[.slice ax ay az, .slice dx dy dz, .bool false, .slice qx qy qz, .slice rx ry rz, .bool false, .slice ex ey ez, .slice fx fy fz, .bool false, .slice sx sy sz, .slice tx ty tz, .slice none 0 0, .slice none 0 0, .slice none 0 0] 53) = W := ⟨_, rfl⟩; have hs10a : W10a.heap.size = rb + 1 := (by rw [← hW10a, ← hrb]; simp); rw [hW10a] at KB11 hb1011; rw [hrb] at KB11; have n11 := KB11.2.1 11; have n12 := KB11.2.1 12; have n13 := KB11.2.1 13; simp only [List.getElem?_toArray, List.getElem?_cons_zero, List.getElem?_cons_succ] at n11 n12 n13; have m11 := KB11.2.2 11; have m12 := KB11.2.2 12; have m13 := KB11.2.2 13; have KB11 := irv_nil3 KB11; have hb1011 := ((hb1011.setCell (p := ⟨rb, 11, none⟩) (by simp only; omega) (.slice none 0 0)).setCell (p := ⟨rb, 12, none⟩) (by simp only; omega) (.slice none 0 0)).setCell (p := ⟨rb, 13, none⟩) (by simp only; omega) (.slice none 0 0); obtain ⟨W11, hW11⟩ : ∃ W, ((W10a.setCell ⟨rb, 11, none⟩ (.slice none 0 0)).setCell ⟨rb, 12, none⟩ (.slice none 0 0)).setCell ⟨rb, 13, none⟩ (.slice none 0 0) = W := ⟨_, rfl⟩; have hs11 := Lib.hid (show W11.heap.size = rb + 1 by rw [← hW11, World.size_setCell, World.size_setCell, World.size_setCell]; exact hs10a); rw [hW11] at KB11 hb1011; clear hs10a; have hbo11 := bel2' hbo10 hb1011; have h411 := h410.keep hb1011; obtain ⟨c0, c1, c2, c3, c4', c5, c6, c7', c8, c9, c10, c11, c12, c13⟩ := cells14 KB11; obtain ⟨f0, f1, f2, f3, f4, f5, f6, f7, f8, f9, f10, f11, f12, f13⟩ := frees14 KB11; have hrb11 := KB11.1; obtain ⟨W12, hW12⟩ : ∃ W, (W11.setCell ⟨rb, 11, none⟩ (.slice (some ⟨W11.heap.size, 0, none⟩) 1 1)).alloc (.cells #[.int .i64 x] 3) = W := ⟨_, rfl⟩; obtain ⟨hb12, K12, ho12⟩ := cnt_win9 hbo11 HB5.out hb1011 hrb hrbw HM.out KB11 rfl rfl hW12; obtain ⟨d0, d1, d2, d3, d4, d5, d6, d7, d8, d9, d10, d11, d12, d13⟩ := cells14 K12; have KT12 := Lib.hid (hT.keep hb12); have KR12 := Lib.hid (hR.keep hb12); have t4 := KT12.out.2.1 4; simp only [List.getElem?_toArray, List.getElem?_cons_zero, List.getElem?_cons_succ] at t4; have HL12 := Lib.hid (hL3.keep hb12); have HE12 := Lib.hid (Nat.le_trans hEr hb12.size); have HEL := Lib.hid (irv_el hL3 hEr ho12); have HB12 := Lib.hid hb12; clear KB11 K12 ho12 hb12))
          | (at_builtin; go_must (refine append_lst2 erRd rfl rfl HL12.out rfl rfl rfl (by simp [Value.oneCell']) HN1.out HN2.out HE12.out (fun _ e => e.elim) HEL.out ?_); intro v13 w13 hL13 hb13 hg13 hG13; obtain ⟨pz, nz, cz, rfl⟩ := own_sl hL13.own; have HL13 := Lib.hid hL13; have HB13 := Lib.hid hb13; have KT13 := KT12.out.off (hb13.block T hTE) hb13.size; have KR13 := KR12.out.off (hb13.block R hRE) hb13.size; obtain ⟨t0, t1, t2, t3, t4', t5⟩ := cells6 KT13; obtain ⟨tf0, tf1, tf2, tf3, tf4, tf5⟩ := frees6 KT13; obtain ⟨r0, r1, r2, r3, r4, r5⟩ := cells6 KR13; obtain ⟨rf0, rf1, rf2, rf3, rf4, rf5⟩ := frees6 KR13; have hTz := KT13.1; have hRz := KR13.1))
        refine bodyPost_ret (v := .tuple #[.agg #[.int .i64 1, .int .i64 1, .int .i64 0, .int .i64 C.n, .slice pz nz cz, .slice (some ⟨w13.heap.size, 0, none⟩) 1 1], .int .i64 0]) (by simp [results, Tryz.results13, go_sem, r0, r1, r2, r3, r4, r5, hRz]) rfl ?_
        have hcs := hCN.out
        rw [hj, count_win HW.out] at hcs
        obtain ⟨g1, g2, g3⟩ := cnt_fin (u4 := .slice pz nz cz) (u5 := .slice (some ⟨w13.heap.size, 0, none⟩) 1 1) (y0 := .int .i64 1) (y1 := .int .i64 1) (y2 := .int .i64 0) (y3 := .int .i64 C.n) (y4 := .slice pz nz cz) (y5 := .slice (some ⟨w13.heap.size, 0, none⟩) 1 1) (x := x) (t1 := 3) HL13.out hTE hRE ((hbel.trans (HB12.out.mono hbel.size)).trans (HB13.out.mono hEs)) hT0 hR0
        exact ⟨_, _, rfl, by rw [hcs]; exact g1, _, g2, Lib.hid ⟨mkR gs rem [x] [] [], by rw [hcs]; simp, rfl⟩, g3⟩
      | none =>
        rw [hfi, Option.getD_none] at hwt
        rw [hwt]
        clear hwt
        have HW := Lib.hid hfi
        have hex := excl_low (gs := gs) (ear := rds.map Rnd.votes) (by rw [HRL.out]; exact HOK.out.brk) hne
        have hxr := remB_lt (mem_alive.1 (low_sub hex))
        have hless := alive_less (low_sub hex)
        obtain ⟨x, hx⟩ : ∃ x, exclS (brkS C.ties lots) gs rem (rds.map Rnd.votes) = x := ⟨_, rfl⟩
        rw [hx] at hless hxr
        rw [HRL.out] at hxr
        obtain ⟨xn, rfl⟩ : ∃ n : Nat, x = n := ⟨x.toNat, by omega⟩
        rw [Int.toNat_natCast] at hless
        have hxk : xn < C.n := by omega
        have hxz : (xn : Int) < (C.n : Int) := by omega
        have hx0 : ¬ (xn : Int) < 0 := by omega
        have HX := Lib.hid hx
        have hlne := low_ne (gs := gs) hne
        obtain ⟨ll, hll⟩ : ∃ n, (lowS gs rem).length = n := ⟨_, rfl⟩
        have hl0 : 0 < ll := by rw [← hll]; exact List.length_pos_iff.2 hlne
        have hl7 : ll ≤ 7 := by rw [← hll]; have h1 := List.length_filter_le (fun c => (aliveS rem).all fun d => !ltW gs rem d c) (aliveS rem); have h2 : (lowS gs rem).length ≤ (aliveS rem).length := HLA.out; omega
        have hl0z : (0 : Int) < (ll : Int) := by omega
        have HLL := Lib.hid hll
        have HIN2 : Hid ((aliveS (rem.set xn false)).length + (nt + 1) = C.n ∧ 1 ≤ (aliveS (rem.set xn false)).length ∧ (rds ++ [mkR gs rem [] [(xn : Int)] (tiedW gs rem)]).length = nt + 1) := Lib.hid ⟨by omega, by
          have := HA1.out hfi
          omega, by rw [List.length_append, hi4]; rfl⟩
        have LO : Hid (∀ wq, Below wo.heap.size wo wq → IntsAt wq (.slice p4 C.n c4) (votesS gs rem) → Calls Tryz.prog 37 #[.slice p4 C.n c4, .slice (some ⟨g, 0, none⟩) C.n C.n] wq fun e w' => ∃ p c, e = .returned (.slice p ll c) ∧ IntsAt w' (.slice p ll c) (lowS gs rem) ∧ Fresh wq.heap.size (.slice p ll c) ∧ Below wq.heap.size wq w') := Lib.hid (fun wq h hv => by
          refine (lowest_c hv (hO.keep h).read (by rw [HRL.out]; exact hn7)).mono ?_
          rintro e w' ⟨v', rfl, g1, g2, g3⟩
          obtain ⟨p, c, rfl⟩ := g1.shape
          rw [HLL.out] at g1 g2 ⊢
          exact ⟨p, c, rfl, g1, g2, g3⟩)
        clear hx hfi hex hxr hless hlne hll hi4
        go_upto_region 26 with (first
          | (go_at_call 35; ((with_reducible refine (WV.out _ (Below.refl _ _)).mono ?_); rintro _ w6 ⟨v6, rfl, ⟨css6, hR6⟩, hb6⟩; obtain ⟨ax, ay, az, rfl⟩ := own_sl hR6.own; have M6 := Lib.hid (hR6.made (Nat.le_refl _) (Nat.le_refl _)); clear hR6))
          | (go_at_call 35; ((with_reducible refine (WK.out _ hb6).mono ?_); rintro _ w7 ⟨v7, rfl, ⟨css7, hR7⟩, hb7⟩; obtain ⟨dx, dy, dz, rfl⟩ := own_sl hR7.own; have M7 := Lib.hid (hR7.made (Nat.le_refl _) (Nat.le_refl _)); clear hR7))
          | (go_at_call 36; ((with_reducible refine (WQ.out _).mono ?_); rintro _ w8 ⟨qx, qy, qz, rx, ry, rz, rfl, m8, hb8⟩; have M8 := Lib.hid m8; clear m8))
          | (go_at_call 36; ((with_reducible refine (WE.out _).mono ?_); rintro _ w9 ⟨ex, ey, ez, fx, fy, fz, rfl, m9, hb9⟩; have M9 := Lib.hid m9; clear m9))
          | (go_at_call 36; ((with_reducible refine (WZ.out _).mono ?_); rintro _ w10 ⟨sx, sy, sz, tx, ty, tz, rfl, m10, hb10⟩; have HM := Lib.hid (irv_made M6.out M7.out M8.out M9.out m10 hb6 hb7 hb8 hb9 hb10 HQ.out HRS.out); have hb510 := bel2' (bel2' (bel2' (bel2' hb6 hb7) hb8) hb9) hb10; have hbo10 := bel2' HB5.out hb510; have h410 := HV5.out.keep hb510; obtain ⟨rb, hrb⟩ : ∃ K, w10.heap.size = K := ⟨_, rfl⟩; have hrbw : wo.heap.size ≤ rb := (by have := hbo10.size; omega); have hb1011 : Below w10.heap.size w10 (w10.alloc (.cells #[.slice ax ay az, .slice dx dy dz, .bool false, .slice qx qy qz, .slice rx ry rz, .bool false, .slice ex ey ez, .slice fx fy fz, .bool false, .slice sx sy sz, .slice tx ty tz, .slice none 0 0, .slice none 0 0, .slice none 0 0] 53)) := below_al (Below.refl _ _) _; have KB11 := Blk.new w10 #[.slice ax ay az, .slice dx dy dz, .bool false, .slice qx qy qz, .slice rx ry rz, .bool false, .slice ex ey ez, .slice fx fy fz, .bool false, .slice sx sy sz, .slice tx ty tz, .slice none 0 0, .slice none 0 0, .slice none 0 0] 53; obtain ⟨W10a, hW10a⟩ : ∃ W, w10.alloc (.cells #[.slice ax ay az, .slice dx dy dz, .bool false, .slice qx qy qz, .slice rx ry rz, .bool false, .slice ex ey ez, .slice fx fy fz, .bool false, .slice sx sy sz, .slice tx ty tz, .slice none 0 0, .slice none 0 0, .slice none 0 0] 53) = W := ⟨_, rfl⟩; have hs10a : W10a.heap.size = rb + 1 := (by rw [← hW10a, ← hrb]; simp); rw [hW10a] at KB11 hb1011; rw [hrb] at KB11; have n11 := KB11.2.1 11; have n12 := KB11.2.1 12; have n13 := KB11.2.1 13; simp only [List.getElem?_toArray, List.getElem?_cons_zero, List.getElem?_cons_succ] at n11 n12 n13; have m11 := KB11.2.2 11; have m12 := KB11.2.2 12; have m13 := KB11.2.2 13; have KB11 := irv_nil3 KB11; have hb1011 := ((hb1011.setCell (p := ⟨rb, 11, none⟩) (by simp only; omega) (.slice none 0 0)).setCell (p := ⟨rb, 12, none⟩) (by simp only; omega) (.slice none 0 0)).setCell (p := ⟨rb, 13, none⟩) (by simp only; omega) (.slice none 0 0); obtain ⟨W11, hW11⟩ : ∃ W, ((W10a.setCell ⟨rb, 11, none⟩ (.slice none 0 0)).setCell ⟨rb, 12, none⟩ (.slice none 0 0)).setCell ⟨rb, 13, none⟩ (.slice none 0 0) = W := ⟨_, rfl⟩; have hs11 := Lib.hid (show W11.heap.size = rb + 1 by rw [← hW11, World.size_setCell, World.size_setCell, World.size_setCell]; exact hs10a); rw [hW11] at KB11 hb1011; clear hs10a; have hbo11 := bel2' hbo10 hb1011; have h411 := h410.keep hb1011; obtain ⟨c0, c1, c2, c3, c4', c5, c6, c7', c8, c9, c10, c11, c12, c13⟩ := cells14 KB11; obtain ⟨f0, f1, f2, f3, f4, f5, f6, f7, f8, f9, f10, f11, f12, f13⟩ := frees14 KB11; have hrb11 := KB11.1; have KB11 := Lib.hid KB11; have h411 := Lib.hid h411; have hbo11 := Lib.hid hbo11; have hb1011 := Lib.hid hb1011))
          | (go_at_call 37; ((with_reducible refine (LO.out _ hbo11.out h411.out).mono ?_); rintro _ w14 ⟨pL, cL, rfl, hLw, hfL, hb14⟩; obtain ⟨bL, oL, hpL, _, _, lcL⟩ := hLw.cellAt 0 (by rw [HLL.out]; exact hl0); subst hpL; simp only [Nat.add_zero] at lcL; obtain ⟨y0, hy0⟩ : ∃ y, (lowS gs rem).getD 0 0 = y := ⟨_, rfl⟩; rw [hy0] at lcL)))
        have KB14 := KB11.out.keep hb14
        have hbo14 := bel2' hbo11.out hb14
        have hb1014 := bel2' hb1011.out hb14
        have HLM : Hid (Made (rb + 1) (fun w => IntsAt w (.slice (some ⟨bL, oL, none⟩) ll cL) (lowS gs rem)) w14) := Lib.hid (RowAt.made hLw (fun b e => by have := hfL b e; omega))
        have HY0 := Lib.hid hy0
        have hLw := Lib.hid hLw
        have hs11 := hs11.out
        clear hy0 hW11 hW10a n11 n12 n13 m11 m12 m13
        by_cases hl1 : 1 < ll
        · have hl1z : (1 : Int) < (ll : Int) := by omega
          have e13 := KB14.2.1 13
          have g13 := KB14.2.2 13
          simp only [List.getElem?_toArray, List.getElem?_cons_zero, List.getElem?_cons_succ] at e13
          have K15 := blk_put KB14 (o := 13) (by simp) (.slice (some ⟨bL, oL, none⟩) ll cL)
          have hs15 : (w14.setCell ⟨rb, 13, none⟩ (.slice (some ⟨bL, oL, none⟩) ll cL)).heap.size = w14.heap.size := World.size_setCell _ _ _
          have hbo15 : Below wo.heap.size wo (w14.setCell ⟨rb, 13, none⟩ (.slice (some ⟨bL, oL, none⟩) ll cL)) := hbo14.setCell (p := ⟨rb, 13, none⟩) hrbw _
          have HL15 := On.step (w' := w14.setCell ⟨rb, 13, none⟩ (.slice (some ⟨bL, oL, none⟩) ll cL)) HLM.out fun k hk => Below.heap_setCell _ _ _ _ (by simp only; omega)
          have HL15 : Made (rb + 1) (fun w => IntsAt w (.slice (some ⟨bL, oL, none⟩) ll cL) (lowS gs rem)) (w14.setCell ⟨rb, 13, none⟩ (.slice (some ⟨bL, oL, none⟩) ll cL)) := On.mono HL15 fun k hk => ⟨hk.1, by rw [hs15]; exact hk.2⟩
          have HS15 : ∀ k, k < rb → (w14.setCell ⟨rb, 13, none⟩ (.slice (some ⟨bL, oL, none⟩) ll cL)).heap[k]? = w10.heap[k]? := fun k hk => by rw [Below.heap_setCell _ _ _ _ (by simp only; omega), hb1014.block k (by omega)]
          go_upto_region 28 with fail
          obtain ⟨W15, hW15⟩ : ∃ W, w14.setCell ⟨rb, 13, none⟩ (.slice (some ⟨bL, oL, none⟩) ll cL) = W := ⟨_, rfl⟩
          rw [hW15] at K15 hbo15 HL15 HS15 ⊢
          have x6 := (hX.keep hbo15).2.1 6
          have t4 := (hT.keep hbo15).2.1 4
          simp only [List.getElem?_toArray, List.getElem?_cons_zero, List.getElem?_cons_succ] at x6 t4
          have S0 : Hid (∀ W', Below W15.heap.size W15 W' → W'.cell? ⟨XB, 6, none⟩ = some (.int .i64 C.ties) ∧ W'.cell? ⟨T, 4, none⟩ = some (.slice pt nt ct)) := Lib.hid (fun W' h => ⟨cell_keep h x6, cell_keep h t4⟩)
          have VO : Hid (∀ W', Below W15.heap.size W15 W' → Calls Tryz.prog 39 #[.slice pt nt ct] W' fun e w' => ∃ v', e = .returned v' ∧ RoundsAt w' v' ((rds.map Rnd.votes).map wholesS) ∧ Below W'.heap.size W' w') := Lib.hid (fun W' h => by
            have := rvotes_c (R := rds) (hL3.keep (bel2' hbo15 h)).slice (by have := HRD.out; omega)
            rwa [List.map_map])
          have BR : Hid (∀ W' ve, Below W15.heap.size W15 W' → RoundsAt W' ve ((rds.map Rnd.votes).map wholesS) → Calls Tryz.prog 38 #[.int .i64 C.ties, ve, .slice (some ⟨bL, oL, none⟩) ll cL, .slice pl nl cl, .bool true] W' fun e w' => ∃ lot, e = .returned (.tuple #[.int .i64 xn, .bool lot]) ∧ Below W'.heap.size W' w') := Lib.hid (fun W' ve h hr => by
            refine (rbreak_c hr (HL15.keep h).now (HL.out.keep (bel2' hbel (bel2' hbo15 h))) C.ties true).mono ?_
            rintro e w' ⟨rfl, hb⟩
            have e1 : (breakS C.ties ((rds.map Rnd.votes).map wholesS) (lowS gs rem) lots true).1 = (xn : Int) := by
              rw [← HX.out]
              unfold exclS
              rw [HLL.out, if_pos hl1]
              rfl
            rw [e1]
            exact ⟨_, rfl, hb⟩)
          have BD : Below W15.heap.size W15 W15.drew := (Below.refl _ _).drew
          clear hW15 e13 g13 lcL KB14
          go_cut [22] (fun s22 wx => s22 = .int .i64 xn ∧ Below W15.heap.size W15 wx)
          case first =>
            go_region_held3 (fun W' => W'.cell? ⟨XB, 6, none⟩ = some (.int .i64 C.ties) ∧ W'.cell? ⟨T, 4, none⟩ = some (.slice pt nt ct))
              (first | with_reducible exact S0.out _ b17 | with_reducible exact S0.out _ b16 | with_reducible exact S0.out _ BD)
              (first
                | (go_at_call 39; ((with_reducible refine (VO.out _ BD).mono ?_); rintro _ w16 ⟨v16, rfl, h16, hb16⟩; have b16 := bel2' BD hb16))
                | (go_at_call 38; ((with_reducible refine (BR.out _ _ b16 h16).mono ?_); rintro _ w17 ⟨lot, rfl, hb17⟩; have b17 := bel2' b16 hb17)))
            all_goals
              go_wp2_with fail
              go_meet
              exact ⟨rfl, b17⟩
          case rest =>
          obtain ⟨rfl, hb17⟩ := hcut
          have HKz : Blk rb #[.slice ax ay az, .slice dx dy dz, .bool false, .slice qx qy qz, .slice rx ry rz, .bool false, .slice ex ey ez, .slice fx fy fz, .bool false, .slice sx sy sz, .slice tx ty tz, .slice none 0 0, .slice none 0 0, .slice (some ⟨bL, oL, none⟩) ll cL] wc := K15.keep hb17
          have hetd : tiedW gs rem = lowS gs rem := by unfold tiedW; rw [HLL.out, if_pos hl1]
          have HTI : Made (rb + 1) (fun w => IntsAt w (.slice (some ⟨bL, oL, none⟩) ll cL) (tiedW gs rem)) wc := by rw [hetd]; exact HL15.keep hb17
          have HSA : ∀ k, k < rb → wc.heap[k]? = w10.heap[k]? := fun k hk => by rw [hb17.block k (by have := K15.1; omega), HS15 k hk]
          have HBZ := bel2' hbo15 hb17
          clear K15 HL15 HS15 hbo15 hb17 x6 t4 S0 VO BR BD hetd hl1z
          have hcs := hCN.out
          rw [hj, count_next HW.out] at hcs
          rw [HX.out] at hcs
          have HC2 : Hid (countS whole (brkS C.ties lots) gs C.n (List.replicate C.n true) [] = (rds ++ [mkR gs rem [] [(xn : Int)] (tiedW gs rem)]) ++ countS whole (brkS C.ties lots) gs (C.n - (nt + 1)) (rem.set xn false) ((rds ++ [mkR gs rem [] [(xn : Int)] (tiedW gs rem)]).map Rnd.votes)) := Lib.hid (by
            rw [hcs, show C.n - (nt + 1) = j by omega, List.append_assoc, List.map_append]
            rfl)
          have HK := Lib.hid HKz
          obtain ⟨W12, hW12⟩ : ∃ W, (wc.setCell ⟨rb, 12, none⟩ (.slice (some ⟨wc.heap.size, 0, none⟩) 1 1)).alloc (.cells #[.int .i64 xn] 3) = W := ⟨_, rfl⟩
          obtain ⟨K12, hb12, ho12⟩ := irv_x10 (gs := gs) (rem := rem) hrb HB5.out.size hrbw HM.out HSA HKz HTI HBZ hW12
          obtain ⟨d0, d1, d2, d3, d4, d5, d6, d7, d8, d9, d10, d11, d12, d13⟩ := cells14 K12
          obtain ⟨c0, c1, c2, c3, c4', c5, c6, c7', c8, c9, c10, c11, c12, c13⟩ := cells14 HKz
          obtain ⟨f0, f1, f2, f3, f4, f5, f6, f7, f8, f9, f10, f11, f12, f13⟩ := frees14 HKz
          have hrbz := HKz.1
          have KT12 := Lib.hid (hT.keep hb12)
          have KR12 := Lib.hid (hR.keep hb12)
          have KX12 := Lib.hid (hX.keep hb12)
          have HO12 := Lib.hid (hO.keep hb12)
          have t4 := KT12.out.2.1 4
          simp only [List.getElem?_toArray, List.getElem?_cons_zero, List.getElem?_cons_succ] at t4
          have HL12 := Lib.hid (hL3.keep hb12)
          have HE12 := Lib.hid (Nat.le_trans hEr hb12.size)
          have HEL := Lib.hid (irv_el hL3 hEr ho12)
          have HB12 := Lib.hid hb12
          have HBEL := Lib.hid hbel
          have hrdl := HRD.out
          clear HKz K12 ho12 hb12 hcs hT hR hX hO hL3 HSA HTI HBZ
          go_wp2_with (at_builtin; go_must (refine append_lst2 erRd rfl rfl HL12.out rfl rfl rfl (by simp [Value.oneCell']) HN1.out HN2.out HE12.out (fun _ e => e.elim) HEL.out ?_); intro v13 w13 hL13 hb13 hg13 hG13; obtain ⟨pz, cz, rfl, _, _⟩ := own_shp hL13.own; rw [HIN2.out.2.2] at hL13 hG13; have HL13 := Lib.hid hL13; have HB13 := Lib.hid hb13; have KT13 := KT12.out.off (hb13.block T hTE) hb13.size; have t13 := KT13.2.1 4; simp only [List.getElem?_toArray, List.getElem?_cons_zero, List.getElem?_cons_succ] at t13; have tf13 := KT13.2.2 4; have KT13 := Lib.hid KT13; have HOw := HO12.out.off (hb13.block g hgE); have HOg := HOw.other hgT 4 (.slice pz (nt + 1) cz); have gc13 := HOw.cell hxk; have gf13 := HOw.free xn; have HOp := Lib.hid ((HOg.put xn false).1); clear HOg HOw)
          go_roundw
          case rel =>
            have A1 := blk_other (blk_put KT13.out (o := 4) (by simp) (.slice pz (nt + 1) cz)) hTg xn (.bool false)
            have A2 := blk_other (blk_other (KR12.out.off (HB13.out.block R hRE) HB13.out.size) hRT 4 (.slice pz (nt + 1) cz)) hRg xn (.bool false)
            have A3 := blk_other (blk_other (KX12.out.off (HB13.out.block XB hXE) HB13.out.size) hXT 4 (.slice pz (nt + 1) cz)) hXg xn (.bool false)
            have A5 := (HL13.out.put (j := 4) hTE (.slice pz (nt + 1) cz)).put (j := xn) hgE (.bool false)
            have A6 := (((HBEL.out.trans (HB12.out.mono HBEL.out.size)).trans (HB13.out.mono hEs)).setCell (p := ⟨T, 4, none⟩) hT0 (.slice pz (nt + 1) cz)).setCell (p := ⟨g, xn, none⟩) hg0 (.bool false)
            have A7 : E ≤ ((w13.setCell ⟨T, 4, none⟩ (.slice pz (nt + 1) cz)).setCell ⟨g, xn, none⟩ (.bool false)).heap.size := by rw [World.size_setCell, World.size_setCell]; exact Nat.le_trans HE12.out HB13.out.size
            exact ⟨nt + 1, _, _, pz, nt + 1, cz, _, A1, A2, A3, HOp.out, A5, A6, A7, HC2, Lib.hid ⟨HIN2.out.1, HIN2.out.2.1, HIN2.out.2.2, rfl⟩⟩
          case measure =>
            have m1 : roundsIn T wo = nt := HM1.out
            have m2 : roundsIn T ((w13.setCell ⟨T, 4, none⟩ (.slice pz (nt + 1) cz)).setCell ⟨g, xn, none⟩ (.bool false)) = nt + 1 := by
              have := (blk_other (blk_put KT13.out (o := 4) (by simp) (.slice pz (nt + 1) cz)) hTg xn (.bool false)).2.1 4
              unfold roundsIn
              rw [this]
              rfl
            omega
        · have hl1z : ¬ (1 : Int) < (ll : Int) := by omega
          have hyx : y0 = (xn : Int) := by
            rw [← HX.out, ← HY0.out]
            unfold exclS
            rw [HLL.out, if_neg hl1]
            cases lowS gs rem <;> rfl
          subst hyx
          have HKz := KB14
          have hetd : tiedW gs rem = [] := by unfold tiedW; rw [HLL.out, if_neg hl1]
          have HTI : Made (rb + 1) (fun w => IntsAt w (.slice none 0 0) (tiedW gs rem)) w14 := by rw [hetd]; exact Made.of_true fun w => RowAt.nil _
          have HSA : ∀ k, k < rb → w14.heap[k]? = w10.heap[k]? := fun k hk => hb1014.block k (by omega)
          have HBZ := hbo14
          clear KB14 hetd
          have hcs := hCN.out
          rw [hj, count_next HW.out] at hcs
          rw [HX.out] at hcs
          have HC2 : Hid (countS whole (brkS C.ties lots) gs C.n (List.replicate C.n true) [] = (rds ++ [mkR gs rem [] [(xn : Int)] (tiedW gs rem)]) ++ countS whole (brkS C.ties lots) gs (C.n - (nt + 1)) (rem.set xn false) ((rds ++ [mkR gs rem [] [(xn : Int)] (tiedW gs rem)]).map Rnd.votes)) := Lib.hid (by
            rw [hcs, show C.n - (nt + 1) = j by omega, List.append_assoc, List.map_append]
            rfl)
          have HK := Lib.hid HKz
          obtain ⟨W12, hW12⟩ : ∃ W, (w14.setCell ⟨rb, 12, none⟩ (.slice (some ⟨w14.heap.size, 0, none⟩) 1 1)).alloc (.cells #[.int .i64 xn] 3) = W := ⟨_, rfl⟩
          obtain ⟨K12, hb12, ho12⟩ := irv_x10 (gs := gs) (rem := rem) hrb HB5.out.size hrbw HM.out HSA HKz HTI HBZ hW12
          obtain ⟨d0, d1, d2, d3, d4, d5, d6, d7, d8, d9, d10, d11, d12, d13⟩ := cells14 K12
          obtain ⟨c0, c1, c2, c3, c4', c5, c6, c7', c8, c9, c10, c11, c12, c13⟩ := cells14 HKz
          obtain ⟨f0, f1, f2, f3, f4, f5, f6, f7, f8, f9, f10, f11, f12, f13⟩ := frees14 HKz
          have hrbz := HKz.1
          have KT12 := Lib.hid (hT.keep hb12)
          have KR12 := Lib.hid (hR.keep hb12)
          have KX12 := Lib.hid (hX.keep hb12)
          have HO12 := Lib.hid (hO.keep hb12)
          have t4 := KT12.out.2.1 4
          simp only [List.getElem?_toArray, List.getElem?_cons_zero, List.getElem?_cons_succ] at t4
          have HL12 := Lib.hid (hL3.keep hb12)
          have HE12 := Lib.hid (Nat.le_trans hEr hb12.size)
          have HEL := Lib.hid (irv_el hL3 hEr ho12)
          have HB12 := Lib.hid hb12
          have HBEL := Lib.hid hbel
          have hrdl := HRD.out
          clear HKz K12 ho12 hb12 hcs hT hR hX hO hL3 HSA HTI HBZ
          go_wp2_with (at_builtin; go_must (refine append_lst2 erRd rfl rfl HL12.out rfl rfl rfl (by simp [Value.oneCell']) HN1.out HN2.out HE12.out (fun _ e => e.elim) HEL.out ?_); intro v13 w13 hL13 hb13 hg13 hG13; obtain ⟨pz, cz, rfl, _, _⟩ := own_shp hL13.own; rw [HIN2.out.2.2] at hL13 hG13; have HL13 := Lib.hid hL13; have HB13 := Lib.hid hb13; have KT13 := KT12.out.off (hb13.block T hTE) hb13.size; have t13 := KT13.2.1 4; simp only [List.getElem?_toArray, List.getElem?_cons_zero, List.getElem?_cons_succ] at t13; have tf13 := KT13.2.2 4; have KT13 := Lib.hid KT13; have HOw := HO12.out.off (hb13.block g hgE); have HOg := HOw.other hgT 4 (.slice pz (nt + 1) cz); have gc13 := HOw.cell hxk; have gf13 := HOw.free xn; have HOp := Lib.hid ((HOg.put xn false).1); clear HOg HOw)
          go_roundw
          case rel =>
            have A1 := blk_other (blk_put KT13.out (o := 4) (by simp) (.slice pz (nt + 1) cz)) hTg xn (.bool false)
            have A2 := blk_other (blk_other (KR12.out.off (HB13.out.block R hRE) HB13.out.size) hRT 4 (.slice pz (nt + 1) cz)) hRg xn (.bool false)
            have A3 := blk_other (blk_other (KX12.out.off (HB13.out.block XB hXE) HB13.out.size) hXT 4 (.slice pz (nt + 1) cz)) hXg xn (.bool false)
            have A5 := (HL13.out.put (j := 4) hTE (.slice pz (nt + 1) cz)).put (j := xn) hgE (.bool false)
            have A6 := (((HBEL.out.trans (HB12.out.mono HBEL.out.size)).trans (HB13.out.mono hEs)).setCell (p := ⟨T, 4, none⟩) hT0 (.slice pz (nt + 1) cz)).setCell (p := ⟨g, xn, none⟩) hg0 (.bool false)
            have A7 : E ≤ ((w13.setCell ⟨T, 4, none⟩ (.slice pz (nt + 1) cz)).setCell ⟨g, xn, none⟩ (.bool false)).heap.size := by rw [World.size_setCell, World.size_setCell]; exact Nat.le_trans HE12.out HB13.out.size
            exact ⟨nt + 1, _, _, pz, nt + 1, cz, _, A1, A2, A3, HOp.out, A5, A6, A7, HC2, Lib.hid ⟨HIN2.out.1, HIN2.out.2.1, HIN2.out.2.2, rfl⟩⟩
          case measure =>
            have m1 : roundsIn T wo = nt := HM1.out
            have m2 : roundsIn T ((w13.setCell ⟨T, 4, none⟩ (.slice pz (nt + 1) cz)).setCell ⟨g, xn, none⟩ (.bool false)) = nt + 1 := by
              have := (blk_other (blk_put KT13.out (o := 4) (by simp) (.slice pz (nt + 1) cz)) hTg xn (.bool false)).2.1 4
              unfold roundsIn
              rw [this]
              rfl
            omega
end Go.Proofs.YtbnhgmikegdppaaGreat
