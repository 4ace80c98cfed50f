/- The statement IrvPossible: for every input the law returns true and its arguments read as before. No condition. -/
import Derived.Test.YtbnhgmikegdppaaQO
import Derived.Deep.Slices
import Derived.Deep.Strs
import Derived.Lib.SmallJoins
import Derived.WalkKit
import Derived.ProofKit
import Derived.OpenShut
import Derived.ShutString
import Derived.ChangeOld
import Derived.Below
/- The reference: First, Lowest. -/
namespace Go.Proofs.Ytbnhgmikegdppaa
open Go.RowKit Go.Proofs.Kit Go.Proofs.Nums

set_option maxRecDepth 100000 in
set_option maxHeartbeats 8000000 in
theorem rfirst_c {v vr : Value} {gs : List Grp} {rem : List Bool} {w : World} (hv : PileAt w v gs) (hr : BoolsAt w vr rem) (hp : PileP 7 gs) (h1 : 1 ≤ rem.length) (h7 : rem.length ≤ 7) :
    Calls Try.prog 75 #[v, vr] w fun e w' => ∃ v', e = .returned (.tuple #[v', .int .i64 (restS gs rem)]) ∧ IntsAt w' v' (votesS gs rem) ∧ Fresh w.heap.size v' ∧ Below w.heap.size w w' := by
  have HP := Lib.hid hp
  have HV := Lib.hid hv
  have HR := Lib.hid hr
  have AN := rpile_c hv
  rw [show pileS 7 gs = true from pile_true.2 hp] at AN
  have AN := Lib.hid AN
  have hlm := SliceOf.len hv
  obtain ⟨p, c, rfl⟩ := hv.shp
  obtain ⟨pr, cr, rfl⟩ := hr.shape
  obtain ⟨len, hlen⟩ : ∃ n, gs.length = n := ⟨_, rfl⟩
  obtain ⟨n, hn⟩ : ∃ n, rem.length = n := ⟨_, rfl⟩
  have HN := Lib.hid hlen
  have HM := Lib.hid hn
  rw [hlen] at HV hlm AN ⊢
  rw [hn] at HR h1 h7 ⊢
  clear hv hr hp hlen hn
  have n7 : ¬ (7 : Int) < (n : Int) := by omega
  go_enter Try.func75, Try.ntmps75
  go_wp2_with (first
    | (go_at_call 89; ((with_reducible refine AN.out.mono ?_); rintro _ w1 ⟨rfl, hb1⟩))
    | (at_make; go_must (refine make_any erI rfl rfl rfl rfl (by omega) (by omega) (by omega) ?_); intro w7 hown7 hb7))
  rw [show ((n : Int)).toNat = n by omega] at *
  have own7 := OwnInt.made hown7
  clear hown7
  have HW1 : Hid (∀ w', Below w1.heap.size w1 w' → Below w.heap.size w w') := Lib.hid (fun w' h => bel2' hb1 h)
  have hws1 := hb1.size
  obtain ⟨G, hG⟩ : ∃ G, w1.heap.size = G := ⟨_, rfl⟩
  have HGe := Lib.hid hG
  rw [hG] at own7 hb7 hws1 ⊢
  clear AN
  go_loopw [7, 8] (fun sv iv wr => ∃ k : Nat, ∃ s : Int, k ≤ len ∧ iv = .int .i64 k ∧ sv = .int .i64 s ∧ Below G w1 wr ∧ OwnInt wr G G n (votesS (gs.take k) rem) ∧ Hid (s = restS (gs.take k) rem) ∧ 0 ≤ s ∧ s ≤ 100000) (fun _ iv _ => len - (intOf iv).toNat)
  case atStart => exact ⟨0, 0, by omega, rfl, rfl, hb7, by rw [List.take_zero, votes_nil, HM.out]; exact own7, Lib.hid rfl, by omega, by omega⟩
  case round =>
    obtain ⟨k, s, hk, rfl, rfl, hbel, hO, hS, s0, s1⟩ := hrel
    have hbelW : Below w.heap.size w wr := HW1.out wr (by rw [HGe.out]; exact hbel)
    by_cases hlt : k < len
    · have hltz : (k : Int) < (len : Int) := by omega
      obtain ⟨g, hg⟩ : ∃ g, gs.getD k g0 = g := ⟨_, rfl⟩
      obtain ⟨bb, off, q, m, d, hp0, hc1, hc2, cl0, cl1, HI, hm⟩ := (HV.out.keep hbelW).cellAt (by rw [HN.out]; exact hlt) hg
      subst hp0
      have hgm : g ∈ gs := mem_getG (by rw [HN.out]; exact hlt) hg
      have hbal := HP.out.bal g hgm
      have hpos := HP.out.pos g hgm
      have htk := take_snoc_g (l := gs) (k := k) (by rw [HN.out]; exact hlt)
      rw [hg] at htk
      have htb : totS (gs.take k) + g.n ≤ 100000 := by
        have h2 := tot_take HP.out.pos (k + 1)
        rw [htk, tot_snoc] at h2
        have := HP.out.tot
        omega
      have hpk := pos_take HP.out.pos k
      obtain ⟨y, hy⟩ : ∃ y, g.n = y := ⟨_, rfl⟩
      rw [hy] at cl1 hpos htb
      have HTK := Lib.hid htk
      have HY := Lib.hid hy
      have hpl7 : g.p.length ≤ 7 := nodup_len 7 g.p hbal.2 hbal.1
      have KC0 := kept_c HI (HR.out.keep hbelW) (by omega)
      obtain ⟨kl, hkl⟩ : ∃ n, (keptS rem g.p).length = n := ⟨_, rfl⟩
      have KC : Hid (Calls Try.prog 90 #[.slice q m d, .slice pr n cr] wr fun e w' => ∃ p2 c2, e = .returned (.slice p2 kl c2) ∧ IntsAt w' (.slice p2 kl c2) (keptS rem g.p) ∧ Below wr.heap.size wr w') := Lib.hid (KC0.mono (by
        rintro e w' ⟨v', rfl, g1, _, g3⟩
        obtain ⟨p2, c2, rfl⟩ := g1.shape
        rw [hkl] at g1 ⊢
        exact ⟨p2, c2, rfl, g1, g3⟩))
      have HKL := Lib.hid hkl
      have hGw : G ≤ wr.heap.size := by have := (hO.2.lt G rfl).2; omega
      have hO := Lib.hid hO
      clear KC0
      by_cases hk0 : kl = 0
      · subst hk0
        obtain ⟨v1, v2⟩ := votes_snoc_no (gs := gs.take k) (kept_none hkl)
        have hb := (wt_tot (R := remB rem) hpk (-1)).2
        have hws : IntKind.i64.wrap (s + y) = s + y := w64 (by omega) (by have := hS.out; unfold restS at this; omega)
        have hsb : s + y ≤ 100000 := by have := hS.out; unfold restS at this; omega
        have HO2 : Hid (OwnInt wr G G n (votesS (gs.take (k + 1)) rem)) := Lib.hid (by rw [HTK.out, v1]; exact hO.out)
        have HS2 : Hid (s + y = restS (gs.take (k + 1)) rem) := Lib.hid (by rw [HTK.out, v2, HY.out, hS.out])
        clear v1 v2 hb htk hg hy hm HI hbal hkl
        go_wp2_with (go_at_call 90; ((with_reducible refine KC.out.mono ?_); rintro _ w3 ⟨p2, c2, rfl, h2, hb3⟩; have cl1' := cell_keep hb3 cl1))
        go_roundw
        case rel => exact ⟨k + 1, s + y, by omega, by go_num, rfl, hbel.trans (hb3.mono hGw), HO2.out.keep hb3, HS2, by omega, hsb⟩
        case measure => simp [intOf] <;> omega
      · obtain ⟨yv, hyv⟩ : ∃ z, (keptS rem g.p).getD 0 0 = z := ⟨_, rfl⟩
        have hfi := kept_some (rem := rem) (p := g.p) (by omega)
        rw [hyv] at hfi
        have hym := List.mem_of_find?_eq_some hfi
        have hy0 := (hbal.1 yv hym).1
        obtain ⟨yn, hyn⟩ : ∃ j : Nat, yv = j := ⟨yv.toNat, by omega⟩
        subst hyn
        obtain ⟨v1, v2, v3⟩ := votes_snoc_at (gs := gs.take k) hfi
        rw [HM.out] at v3
        have hg2 : (votesS (gs.take k) rem).getD yn 0 = wt (remB rem) (gs.take k) yn := by
          have := votes_get (gs := gs.take k) (rem := rem) (c := (yn : Int)) (by omega) (by rw [HM.out]; omega)
          exact this
        have hb := wt_tot (R := remB rem) hpk yn
        obtain ⟨u, hu⟩ : ∃ u, (votesS (gs.take k) rem).getD yn 0 = u := ⟨_, rfl⟩
        rw [hu] at hg2 v1
        rw [← hg2] at hb
        have HU := Lib.hid hu
        have hws : IntKind.i64.wrap (u + y) = u + y := w64 (by omega) (by omega)
        have HV1 : Hid (votesS (gs.take (k + 1)) rem = (votesS (gs.take k) rem).set yn (u + y)) := Lib.hid (by rw [HTK.out, v1, HY.out])
        have HS2 : Hid (s = restS (gs.take (k + 1)) rem) := Lib.hid (by rw [HTK.out, v2, hS.out])
        have klz : (0 : Int) < (kl : Int) := by omega
        have yz : (yn : Int) < (n : Int) := by omega
        have HYV := Lib.hid hyv
        clear v1 v2 hb htk hg hy hm HI hbal hu hg2 hyv hym hfi hkl
        go_wp2_with (go_at_call 90; ((with_reducible refine KC.out.mono ?_); rintro _ w3 ⟨p2, c2, rfl, h2, hb3⟩; have cl1' := cell_keep hb3 cl1; obtain ⟨b2, o2, hq, hk1, hk2, cy⟩ := h2.cellAt 0 (by rw [HKL.out]; omega); subst hq; rw [HYV.out] at cy; simp only [Nat.add_zero] at cy; rw [HKL.out] at hk1; have hO3 := hO.out.keep hb3; have cv := hO3.cell v3; rw [HU.out] at cv; have hfr := hO3.free yn))
        have hput := (hO3.keep ((Below.refl _ _).drew)).put yn (u + y)
        have HO2 : Hid (OwnInt (w3.drew.setCell ⟨G, yn, none⟩ (.int .i64 (u + y))) G G n (votesS (gs.take (k + 1)) rem)) := Lib.hid (by rw [HV1.out]; exact hput.1)
        have HB2 : Hid (Below G w1 (w3.drew.setCell ⟨G, yn, none⟩ (.int .i64 (u + y)))) := Lib.hid ((hbel.trans (hb3.mono hGw)).drew.setCell (Nat.le_refl _) _)
        clear hput hO3
        go_region
        all_goals
          go_wp2_with fail
          go_roundw
          case rel => exact ⟨k + 1, s, by omega, by go_num, rfl, HB2.out, HO2.out, HS2, s0, s1⟩
          case measure => simp [intOf] <;> omega
    · obtain rfl : k = len := by omega
      have e : gs.take k = gs := List.take_of_length_le (by rw [HN.out]; omega)
      rw [e] at hO hS
      have hO := Lib.hid hO
      have HWS := Lib.hid hws1
      clear hws1
      go_wp2_with fail
      go_ret2
      exact ⟨_, by rw [hS.out]; rfl, hO.out.read, fun b hb => by simp [Value.ownBlock] at hb; subst hb; exact HWS.out, hbelW⟩

set_option maxRecDepth 100000 in
set_option maxHeartbeats 8000000 in
theorem lowest_c {vv vr : Value} {gs : List Grp} {rem : List Bool} {w : World} (hv : IntsAt w vv (votesS gs rem)) (hr : BoolsAt w vr rem) (h7 : rem.length ≤ 7) :
    Calls Try.prog 76 #[vv, vr] w fun e w' => ∃ v', e = .returned v' ∧ IntsAt w' v' (lowS gs rem) ∧ Fresh w.heap.size v' ∧ Below w.heap.size w w' := by
  have H := Lib.hid hv
  have IN := Lib.hid (fun wq (h : Below w.heap.size w wq) x => in_c (hr.keep h) x)
  obtain ⟨p, c, rfl⟩ := hv.shape
  obtain ⟨pr, cr, rfl⟩ := hr.shape
  obtain ⟨n, hn⟩ : ∃ n, rem.length = n := ⟨_, rfl⟩
  have HN := Lib.hid hn
  have hvl : (votesS gs rem).length = n := by rw [votes_len, hn]
  have HVL := Lib.hid hvl
  have HLA : Hid (riseTo (lowS gs rem) n = lowS gs rem) := Lib.hid (by rw [← hn]; exact low_all gs rem)
  have HLL : Hid (∀ i, i < n → hasB (lowS gs rem) i = leastB (votesS gs rem) rem i n) := Lib.hid (fun i hi => by
    rw [Bool.eq_iff_iff, hasB_true, mem_low, ← hn, least_low (by omega)])
  have HLN : Hid (∀ k, (riseTo (lowS gs rem) k).length ≤ k) := Lib.hid (fun k => riseTo_len _ k)
  rw [hvl] at H ⊢
  rw [hn] at IN h7 ⊢
  obtain ⟨L, hL⟩ : ∃ L, lowS gs rem = L := ⟨_, rfl⟩
  rw [hL] at HLA HLL HLN ⊢
  obtain ⟨V, hV⟩ : ∃ V, votesS gs rem = V := ⟨_, rfl⟩
  rw [hV] at H HVL HLL
  clear hv hr hn hvl hL hV
  go_enter Try.func76, Try.ntmps76
  go_wp2_with fail
  go_loopw [5, 6] (fun ov iv wr => ∃ k m : Nat, k ≤ n ∧ iv = .int .i64 k ∧ wr.ownsRow w.heap.size 3 1 ov m ((riseTo L k).map (Value.int .i64)) ∧ Below w.heap.size w wr) (fun _ iv _ => n - (intOf iv).toNat)
  case atStart => exact ⟨0, 0, by omega, rfl, (World.ownsRow_nil _ _ _ _ : w.ownsRow w.heap.size 3 1 (.slice none 0 0) 0 []), Below.refl _ _⟩
  case round =>
    obtain ⟨i, m, hk, rfl, hown, hbel⟩ := hrel
    by_cases hlt : i < n
    · have hltz : (i : Int) < (n : Int) := by omega
      have hm2 : m ≤ i := by
        have h1 := hown.1
        have h2 := HLN.out i
        rw [List.length_map] at h1
        omega
      obtain ⟨b6, o6, e6, hcap1, hcap2, hvc⟩ := (H.out.keep hbel).cellAt i (by rw [HVL.out]; exact hlt)
      subst e6
      obtain ⟨x, hx⟩ : ∃ x, V.getD i 0 = x := ⟨_, rfl⟩
      rw [hx] at hvc
      have HX := Lib.hid hx
      have hown := Lib.hid hown
      have I0 := IN.out wr hbel i
      rw [remB_at] at I0
      have I0 : Hid (Calls Try.prog 91 #[.slice pr n cr, .int .i64 i] wr fun e w' => e = .returned (.bool (leastB V rem i 0)) ∧ wr = w') := Lib.hid I0
      clear hx
      go_wp2_with (go_at_call 91; ((with_reducible refine I0.out.mono ?_); rintro _ _ ⟨rfl, rfl⟩))
      go_loopw [7, 8] (fun lv iv wz => ∃ d : Nat, d ≤ n ∧ iv = .int .i64 d ∧ lv = .bool (leastB V rem i d) ∧ Below wr.heap.size wr wz) (fun _ iv _ => n - (intOf iv).toNat)
      case atStart => exact ⟨0, by omega, rfl, rfl, Below.refl _ _⟩
      case round =>
        obtain ⟨d, hd, rfl, rfl, hbz⟩ := hrel
        by_cases hdl : d < n
        · have hdz : (d : Int) < (n : Int) := by omega
          obtain ⟨b7, o7, e7, _, _, hvd⟩ := ((H.out.keep hbel).keep hbz).cellAt d (by rw [HVL.out]; exact hdl)
          simp only [Option.some.injEq, Addr.mk.injEq, and_true] at e7
          obtain ⟨rfl, rfl⟩ := e7
          have hvcz := cell_keep hbz hvc
          have hst : leastB V rem i (d + 1) = (leastB V rem i d && (!(rem.getD d false) || decide (V.getD i 0 ≤ V.getD d 0))) := rfl
          rw [HX.out] at hst
          obtain ⟨y, hy⟩ : ∃ y, V.getD d 0 = y := ⟨_, rfl⟩
          obtain ⟨r, hr⟩ : ∃ y, rem.getD d false = y := ⟨_, rfl⟩
          have ID : Hid (∀ q, Calls Try.prog 91 #[.slice pr n cr, .int .i64 d] (wr.drewN q) fun e w' => e = .returned (.bool r) ∧ w' = wr.drewN q) := Lib.hid (fun q => by
            have h := IN.out _ (below_drewN (bel2' hbel hbz) q) d
            rw [remB_at, hr] at h
            exact h.mono fun _ _ ⟨h1, h2⟩ => ⟨h1, h2.symm⟩)
          rw [hr] at hst
          rw [hy] at hst hvd
          obtain ⟨l, hl⟩ : ∃ l, leastB V rem i d = l := ⟨_, rfl⟩
          rw [hl] at hst ⊢
          clear hr hy hl
          cases r
          · have HST2 : Hid (leastB V rem i (d + 1) = l) := Lib.hid (by rw [hst]; simp)
            clear hst
            go_wp2_with fail
            go_quiet ((go_at_call 91; exact Calls.quiet_of_same (ID.out _)))
            all_goals
              go_wp2_with fail
              go_roundw
              case rel => exact ⟨d + 1, by omega, by go_num, by rw [HST2.out], below_drewN hbz _⟩
              case measure => simp [intOf] <;> omega
          · by_cases hyx : y < x
            · have hd1 : decide (y < x) = true := decide_eq_true hyx
              have HST2 : Hid (leastB V rem i (d + 1) = false) := Lib.hid (by rw [hst, decide_eq_false (by omega)]; simp)
              clear hst
              go_wp2_with fail
              go_quiet ((go_at_call 91; exact Calls.quiet_of_same (ID.out _)))
              all_goals
                go_wp2_with fail
                go_roundw
                case rel => exact ⟨d + 1, by omega, by go_num, by rw [HST2.out], below_drewN hbz _⟩
                case measure => simp [intOf] <;> omega
            · have hd1 : decide (y < x) = false := decide_eq_false hyx
              have HST2 : Hid (leastB V rem i (d + 1) = l) := Lib.hid (by rw [hst, decide_eq_true (by omega)]; simp)
              clear hst
              go_wp2_with fail
              go_quiet ((go_at_call 91; exact Calls.quiet_of_same (ID.out _)))
              all_goals
                go_wp2_with fail
                go_roundw
                case rel => exact ⟨d + 1, by omega, by go_num, by rw [HST2.out], below_drewN hbz _⟩
                case measure => simp [intOf] <;> omega
        · obtain rfl : n = d := by omega
          have hbw := bel2' hbel hbz
          have hownz := ownsRow_below hown.out hbz
          have hll := HLL.out i hlt
          cases hb : leastB V rem i n
          · rw [hb] at hll
            have HR := Lib.hid (riseTo_no hll)
            clear hb hll
            go_wp2_with fail
            go_roundw
            case rel => exact ⟨i + 1, m, by omega, by go_num, by rw [HR.out]; exact hownz, hbw⟩
            case measure => simp [intOf] <;> omega
          · rw [hb] at hll
            have HR := Lib.hid (riseTo_yes hll)
            clear hb hll
            go_wp2_with (at_builtin; go_must (refine append_one erI rfl rfl hownz rfl rfl rfl (by simp [Value.oneCell']) (by omega) (by omega) hbw.size ?_); intro v' w1 hown1 _ hb1 hne1)
            go_roundw
            case rel =>
              refine ⟨i + 1, m + 1, by omega, by go_num, ?_, hbw.trans hb1⟩
              rw [HR.out, List.map_append]
              exact hown1
            case measure => simp [intOf] <;> omega
    · obtain rfl : n = i := by omega
      have HI : Hid (IntsAt wr u5 L) := Lib.hid (by have := ints_owned hown; rwa [HLA.out] at this)
      have HF := Lib.hid (Fresh.owned hown)
      clear hown
      go_wp2_with fail
      go_ret
      exact ⟨_, rfl, HI.out, HF.out, hbel⟩

end Go.Proofs.Ytbnhgmikegdppaa

/- The reference: Reachable, Possible. -/
namespace Go.Proofs.Nums

theorem size_two {n s c : Nat} (h7 : n ≤ 7) (hs : s < 2 ^ n) (hc : c < n) (h : setB n s c = true) (hne : s ≠ 2 ^ c) : 2 ≤ (aliveS (remS n s)).length := by
  refine Classical.byContradiction fun g => hne ?_
  have hp := pow_128 n (by omega)
  have hm : ∀ d, d ∈ aliveS (remS n s) ↔ setB n s d = true := fun d => mem_alive
  refine setB_inj h7 hs (hp.2.2 c hc) ?_
  rw [setB_one h7 hc]
  funext d
  unfold single
  rw [Bool.eq_iff_iff, decide_eq_true_iff]
  constructor
  · intro hd
    have h1 := (hm d).2 hd
    have h2 := (hm c).2 h
    match e : aliveS (remS n s), h1, h2 with
    | [], h1, _ => simp at h1
    | [x], h1, h2 =>
      rw [List.mem_singleton] at h1 h2
      omega
    | x :: y :: t, _, _ => rw [e] at g; simp at g
  · rintro rfl
    exact h

end Go.Proofs.Nums
namespace Go.Proofs.Ytbnhgmikegdppaa
open Go.RowKit Go.Proofs.Kit Go.Proofs.Nums

set_option maxRecDepth 100000 in
set_option maxHeartbeats 16000000 in
theorem reachable_c {vg : Value} {gs : List Grp} {n : Nat} {w : World} (hg : PileAt w vg gs) (h1 : 1 ≤ n) (h7 : n ≤ 7) (hp : PileP n gs) :
    Calls Try.prog 45 #[.int .i64 n, vg] w fun e w' => ∃ g N R, 2 ^ n = N ∧ N ≤ 128 ∧ e = .returned (.slice (some ⟨g, 0, none⟩) N N) ∧ OwnBool w' g g N R ∧ Hid (RInv n gs R 0 (fun _ => False)) ∧ w.heap.size ≤ g ∧ Below w.heap.size w w' := by
  have HG := Lib.hid hg
  have HP7 := Lib.hid (hp.seven (by omega))
  obtain ⟨pg, ng, cg, rfl⟩ : ∃ p n c, vg = .slice p n c := by obtain ⟨p, c, e⟩ := hg.shp; exact ⟨_, _, _, e⟩
  obtain ⟨N, hN⟩ : ∃ N, 2 ^ n = N := ⟨_, rfl⟩
  have hNb : 2 ≤ N ∧ N ≤ 128 ∧ wrap64 (2 ^ n) = (N : Int) := by
    have : n = 1 ∨ n = 2 ∨ n = 3 ∨ n = 4 ∨ n = 5 ∨ n = 6 ∨ n = 7 := by omega
    rcases this with rfl | rfl | rfl | rfl | rfl | rfl | rfl <;> (subst hN; refine ⟨by decide, by decide, ?_⟩; unfold wrap64; rfl)
  obtain ⟨hN2, hN7, hNw⟩ := hNb
  have HNe := Lib.hid hN
  have HNw := Lib.hid hNw
  have hwu : IntKind.u64.wrap (n : Int) = n := wu64 (by omega) (by omega)
  have hNm : IntKind.i64.wrap ((N : Int) - 1) = (N : Int) - 1 := w64 (by omega) (by omega)
  obtain ⟨F, hF⟩ : ∃ F : Nat, (N : Int) - 1 = F := ⟨N - 1, by omega⟩
  have hFl : F < N := by omega
  have hFz : (F : Int) < (N : Int) := by omega
  clear hg hp hN
  go_enter Try.func45, Try.ntmps45
  go_wp2_with (at_make; go_must (refine make_any erB rfl rfl (kl := .i64) (kc := .i64) (L := (N : Int)) (congrArg (Value.int .i64) HNw.out) (congrArg (Value.int .i64) HNw.out) (by omega) (by omega) (by omega) ?_); intro w2 hown2 hb2; rw [show ((N : Int)).toNat = N by omega] at hown2; have own2 := OwnBool.made hown2; have cF := own2.cell hFl; have fF := own2.free F; rw [show ((N : Int)).toNat = N by omega])
  obtain ⟨G, hG⟩ : ∃ G, w.heap.size = G := ⟨_, rfl⟩
  rw [hG] at own2 hb2 ⊢
  have hput := own2.put F true
  have hst := RInv.start (n := n) (gs := gs) (D := fun _ => False) h7 (fun c h => h)
  rw [HNe.out, show N - 1 = F by omega] at hst
  have HST := Lib.hid hst
  obtain ⟨R0, hR0⟩ : ∃ R, (List.replicate N false).set F true = R := ⟨_, rfl⟩
  rw [hR0] at hput HST
  have hB0 := hb2.trans hput.2
  have hO0 := Lib.hid hput.1
  have hGe := Lib.hid hG
  clear hput hst hR0 own2 cF fF hG
  go_loopw [6] (fun sv wr => ∃ s : Nat, ∃ R, s < N ∧ sv = .int .i64 s ∧ OwnBool wr G G N R ∧ Below G w wr ∧ Hid (RInv n gs R s (fun _ => False))) (fun sv _ => (intOf sv).toNat)
  case atStart => exact ⟨F, R0, hFl, rfl, hO0.out, hB0, HST⟩
  case round =>
    obtain ⟨s, R, hs, rfl, hO, hbel, hI⟩ := hrel
    have hbelw : Below w.heap.size w wr := by rw [hGe.out]; exact hbel
    by_cases h0 : 0 < s
    · have h0z : (1 : Int) ≤ (s : Int) := by omega
      have hsz : (s : Int) < (N : Int) := by omega
      have hsm : IntKind.i64.wrap ((s : Int) - 1) = (s : Int) - 1 := w64 (by omega) (by omega)
      have ME := Lib.hid (members_c n s h1 h7 (by omega) wr)
      have hGr : G < wr.heap.size := (hO.2.lt G rfl).2
      have HO := Lib.hid hO
      clear hO
      cases hr : R.getD s false
      · have HX := Lib.hid (hI.out.skip (D' := fun _ => False) h0 hr (fun c h => h))
        have HR := Lib.hid hr
        clear hr
        go_wp2_with (go_at_call 74; ((with_reducible refine ME.out.mono ?_); rintro _ w3 ⟨g2, rfl, h3, hg2, hb3⟩; have hO3 := HO.out.keep hb3; have hcell := hO3.cell hs; rw [HR.out] at hcell))
        go_roundw
        case rel => exact ⟨s - 1, R, by omega, by go_num, hO3, hbel.trans (hb3.mono (by omega)), HX⟩
        case measure => simp [intOf] <;> omega
      · have HRs := Lib.hid hr
        clear hr
        have SZ := Lib.hid (fun wq v (h : BoolsAt wq v (remS n s)) => size_c h (by rw [remS_len]; exact h7))
        obtain ⟨z, hz⟩ : ∃ z, (aliveS (remS n s)).length = z := ⟨_, rfl⟩
        rw [hz] at SZ
        by_cases hz2 : z < 2
        · have hzz : ((z : Int)) < 2 := by omega
          have HX := Lib.hid (hI.out.done (D' := fun _ => False) h0 (fun c hc hl hne => by
            have := size_two h7 (by rw [HNe.out]; exact hs) hc hl.1 hne
            omega) (fun c h => h))
          clear hz
          go_wp2_with (first
            | (go_at_call 74; ((with_reducible refine ME.out.mono ?_); rintro _ w3 ⟨g2, rfl, h3, hg2, hb3⟩; have hO3 := HO.out.keep hb3; have hcell := hO3.cell hs; rw [HRs.out] at hcell))
            | (go_at_call 28; ((with_reducible refine (SZ.out _ _ h3.read).mono ?_); rintro _ _ ⟨rfl, rfl⟩)))
          go_roundw
          case rel => exact ⟨s - 1, R, by omega, by go_num, hO3, hbel.trans (hb3.mono (by omega)), HX⟩
          case measure => simp [intOf] <;> omega
        · have hzz : ¬ ((z : Int)) < 2 := by omega
          have HI : Hid (RInv n gs R s (fun c => (c : Int) ∈ (lowS gs (remS n s)).take 0) ∧ R.getD s false = true) := Lib.hid ⟨hI.out.no fun c _ h _ _ => by simp at h, HRs.out⟩
          have FI := Lib.hid (fun wq v (hq : Below wr.heap.size wr wq) (h : BoolsAt wq v (remS n s)) => rfirst_c (HG.out.keep (bel2' hbelw hq)) h HP7.out (by rw [remS_len]; exact h1) (by rw [remS_len]; exact h7))
          have LO := Lib.hid (fun wq vv v (hv : IntsAt wq vv (votesS gs (remS n s))) (h : BoolsAt wq v (remS n s)) => lowest_c hv h (by rw [remS_len]; exact h7))
          have HLR : Hid (∀ x ∈ lowS gs (remS n s), 0 ≤ x ∧ x < (n : Int) ∧ Low gs (setB n s) x) := Lib.hid (fun x hx => by
            have h := mem_low.1 hx
            have hl := remB_lt h.1
            rw [remS_len] at hl
            exact ⟨hl.1, hl.2, h⟩)
          have HLL : Hid (∀ c, Low gs (setB n s) c → c ∈ lowS gs (remS n s)) := Lib.hid (fun c h => mem_low.2 h)
          have hll := low_len gs (remS n s)
          rw [remS_len] at hll
          obtain ⟨low, hlow⟩ : ∃ l, lowS gs (remS n s) = l := ⟨_, rfl⟩
          rw [hlow] at HI LO HLR HLL hll
          obtain ⟨ln, hln⟩ : ∃ l, low.length = l := ⟨_, rfl⟩
          have HLN := Lib.hid hln
          rw [hln] at hll
          clear hz hlow hln hI
          go_wp2_with (first
            | (go_at_call 74; ((with_reducible refine ME.out.mono ?_); rintro _ w3 ⟨g2, rfl, h3, hg2, hb3⟩; have hO3 := HO.out.keep hb3; have hcell := hO3.cell hs; rw [HRs.out] at hcell))
            | (go_at_call 28; ((with_reducible refine (SZ.out _ _ h3.read).mono ?_); rintro _ _ ⟨rfl, rfl⟩))
            | (go_at_call 75; ((with_reducible refine (FI.out _ _ hb3 h3.read).mono ?_); rintro _ w4 ⟨v4, rfl, h4, _, hb4⟩; have h34 := h3.keep hb4; have hO4 := hO3.keep hb4; have hB4 := bel2' hb3 hb4))
            | (go_at_call 76; ((with_reducible refine (LO.out _ _ _ h4 h34.read).mono ?_); rintro _ w5 ⟨v5, rfl, h5, hf5, hb5⟩; have hO5 := hO4.keep hb5; have hB5 := bel2' hB4 hb5; have hs4 := hB4.size; obtain ⟨p5, c5, rfl⟩ := h5.shape; rw [HLN.out] at h5 hf5 ⊢)))
          have hv5 : ∀ k, (Value.slice p5 ln c5).ownBlock = some k → k ≠ G := fun k e => by have := hf5 k e; omega
          have hBw5 : Below G w w5 := hbel.trans (hB5.mono (by omega))
          clear hcell hO3 h34 h4 hO4 h3 hb3 hb4 hb5 hB4 hB5 hs4 hf5
          go_loopw [11] (fun iv wq => ∃ i : Nat, ∃ R', i ≤ ln ∧ iv = .int .i64 i ∧ OwnBool wq G G N R' ∧ IntsAt wq (.slice p5 ln c5) low ∧ Below G w wq ∧ Hid (RInv n gs R' s (fun c => (c : Int) ∈ low.take i) ∧ R'.getD s false = true)) (fun iv _ => ln - (intOf iv).toNat)
          case atStart => exact ⟨0, R, by omega, rfl, hO5, h5, hBw5, HI⟩
          case round =>
            obtain ⟨i, R', hi, rfl, hO5, h5, hB5, HI⟩ := hrel
            by_cases hlt : i < ln
            · have hltz : (i : Int) < (ln : Int) := by omega
              obtain ⟨b6, o6, e6, hcap1, hcap2, hvc⟩ := h5.cellAt i (by rw [HLN.out]; exact hlt)
              subst e6
              have hmem : low.getD i 0 ∈ low := mem_getD (by rw [HLN.out]; exact hlt) rfl
              have hlr := HLR.out _ hmem
              obtain ⟨c, hc⟩ : ∃ c : Nat, low.getD i 0 = c := ⟨(low.getD i 0).toNat, by omega⟩
              have htk := take_snoc_i (l := low) (k := i) (by rw [HLN.out]; exact hlt)
              rw [hc] at hvc hlr htk
              have hcn : c < n := by omega
              have hlo := hlr.2.2
              have hsb : s.testBit c = true := by have := hlo.1; rwa [setB_nat hcn] at this
              have hms := mask_sub s (by omega) c (by omega) hsb
              have hpos : 0 < 2 ^ c := Nat.two_pow_pos c
              have hpw : wrap64 (2 ^ c) = 2 ^ c := wrap_bit c (by omega)
              obtain ⟨t, ht⟩ : ∃ t, 2 ^ c = t := ⟨_, rfl⟩
              have hpt : wrap64 (2 ^ c) = (t : Int) := by rw [hpw, ← ht]; simp
              have hwc : IntKind.u64.wrap (c : Int) = c := wu64 (by omega) (by omega)
              have hy := HI.out.1.yes h7 (by rw [HNe.out]; exact hs) hcn HI.out.2 hlo (D' := fun d => (d : Int) ∈ low.take (i + 1)) (fun d hd => by
                rw [htk, List.mem_append, List.mem_singleton] at hd
                rcases hd with hd | hd
                · exact .inl hd
                · exact .inr (by omega))
              rw [ht] at hms hpos hy
              obtain ⟨u, hu⟩ : ∃ u, s - t = u := ⟨_, rfl⟩
              have hus : u < s := by omega
              rw [hu] at hy
              have hgs : (R'.set u true).getD s false = true := by
                rw [set_getD (by rw [hO5.1]; omega), if_neg (by omega)]
                exact HI.out.2
              have HN := Lib.hid (show RInv n gs (R'.set u true) s (fun d => (d : Int) ∈ low.take (i + 1)) ∧ (R'.set u true).getD s false = true from ⟨hy, hgs⟩)
              have hsub : (s : Int) - (t : Int) = (u : Int) := by omega
              have hwsub : IntKind.i64.wrap (u : Int) = u := w64 (by omega) (by omega)
              have hcu := hO5.cell (j := u) (by omega)
              have hfu := hO5.free u
              have hpu := Lib.hid (hO5.put u true)
              have huz : (u : Int) < (N : Int) := by omega
              have h5 := Lib.hid h5
              clear hmem hlr hc htk hlo hsb hms hpw ht hy hu hgs hO5
              go_wp2_with fail
              go_roundw
              case rel => exact ⟨i + 1, R'.set u true, by omega, by go_num, hpu.out.1, ints_off h5.out hv5, hB5.trans hpu.out.2, HN⟩
              case measure => simp [intOf] <;> omega
            · obtain rfl : ln = i := by omega
              have HX := Lib.hid (HI.out.1.done (D' := fun _ => False) h0 (fun c hc hl _ => by
                rw [List.take_of_length_le (by rw [HLN.out]; exact Nat.le_refl _)]
                exact HLL.out _ hl) (fun c h => h))
              go_wp2_with fail
              go_roundw
              case rel => exact ⟨s - 1, R', by omega, by go_num, hO5, hB5, HX⟩
              case measure => simp [intOf] <;> omega
    · have hs0 : s = 0 := by omega
      subst hs0
      have HO := Lib.hid hO
      clear hO
      go_wp2_with fail
      go_ret
      exact ⟨G, N, R, HNe.out, hN7, rfl, HO.out, hI, by rw [hGe.out]; exact Nat.le_refl _, hbelw⟩

end Go.Proofs.Ytbnhgmikegdppaa

/- The reference's Possible; both Possibles where the pile is not valid. -/
namespace Go.Proofs.Ytbnhgmikegdppaa
open Go.RowKit Go.Proofs.Kit Go.Proofs.Nums

set_option maxRecDepth 100000 in
set_option maxHeartbeats 8000000 in
theorem rpossible_c {vg : Value} {gs : List Grp} {n : Nat} {w : World} (hg : PileAt w vg gs) (h1 : 1 ≤ n) (h7 : n ≤ 7) (hp : PileP n gs) :
    Calls Try.prog 15 #[.int .i64 n, vg] w fun e w' => ∃ v', e = .returned v' ∧ IntsAt w' v' (possS n gs) ∧ Fresh w.heap.size v' ∧ Below w.heap.size w w' := by
  have PV := rvalid_c hg n
  rw [valid_in (by omega) (by omega), pile_true.2 hp] at PV
  have PV := Lib.hid PV
  have RE := Lib.hid (fun wq (h : Below w.heap.size w wq) => reachable_c (hg.keep h) h1 h7 hp)
  obtain ⟨pg, ng, cg, rfl⟩ : ∃ p n c, vg = .slice p n c := by obtain ⟨p, c, e⟩ := hg.shp; exact ⟨_, _, _, e⟩
  clear hg hp
  go_enter Try.func15, Try.ntmps15
  go_wp2_with (first
    | (go_at_call 44; ((with_reducible refine PV.out.mono ?_); rintro _ w1 ⟨rfl, hb1⟩))
    | (go_at_call 45; ((with_reducible refine (RE.out _ hb1).mono ?_); rintro _ w2 ⟨G, N, R, hNe, hN7, rfl, hO, hI, hGs, hb2⟩; have hB2 := bel2' hb1 hb2)))
  have HI := Lib.hid (fun c (hc : c < n) => hI.out.one h7 hc)
  have HNe := Lib.hid hNe
  clear hI hNe
  go_loopw [6, 7] (fun ov iv wz => ∃ k m : Nat, k ≤ n ∧ iv = .int .i64 k ∧ wz.ownsRow w2.heap.size 3 1 ov m ((canTo n gs k).map (Value.int .i64)) ∧ Below w2.heap.size w2 wz) (fun _ iv _ => n - (intOf iv).toNat)
  case atStart => exact ⟨0, 0, by omega, rfl, (World.ownsRow_nil _ _ _ _ : w2.ownsRow w2.heap.size 3 1 (.slice none 0 0) 0 []), Below.refl _ _⟩
  case round =>
    obtain ⟨k, m, hk, rfl, hown, hbz⟩ := hrel
    by_cases hlt : k < n
    · have hltz : (k : Int) < (n : Int) := by omega
      have hm2 : m ≤ k := by
        have h1 := hown.1
        have h2 := canTo_len n gs k
        rw [List.length_map] at h1
        omega
      have hpw : wrap64 (2 ^ k) = 2 ^ k := wrap_bit k (by omega)
      have hwk : IntKind.u64.wrap (k : Int) = k := wu64 (by omega) (by omega)
      obtain ⟨u, hu⟩ : ∃ u, 2 ^ k = u := ⟨_, rfl⟩
      have huN : u < N := by rw [← hu, ← HNe.out]; exact (pow_128 n (by omega)).2.2 k hlt
      have hpu : wrap64 (2 ^ k) = (u : Int) := by rw [hpw, ← hu]; simp
      have hcu := (hO.keep hbz).cell huN
      have huz : (u : Int) < (N : Int) := by omega
      have hiff := HI.out k hlt
      rw [hu] at hiff
      clear hpw hu
      cases hb : R.getD u false
      · rw [hb] at hcu
        have HR := Lib.hid (canTo_no (n := n) (gs := gs) (k := k) (fun h => by have := hiff.2 h; rw [hb] at this; simp at this))
        clear hb hiff
        go_wp2_with fail
        go_roundw
        case rel => exact ⟨k + 1, m, by omega, by go_num, by rw [HR.out]; exact hown, hbz⟩
        case measure => simp [intOf] <;> omega
      · rw [hb] at hcu
        have HR := Lib.hid (canTo_yes (n := n) (gs := gs) (k := k) (hiff.1 hb))
        clear hb hiff
        go_wp2_with (at_builtin; go_must (refine append_one erI rfl rfl hown rfl rfl rfl (by simp [Value.oneCell']) (by omega) (by omega) hbz.size ?_); intro v' w3 hown1 _ hb3 hne1)
        go_roundw
        case rel =>
          refine ⟨k + 1, m + 1, by omega, by go_num, ?_, hbz.trans hb3⟩
          rw [HR.out, List.map_append]
          exact hown1
        case measure => simp [intOf] <;> omega
    · obtain rfl : n = k := by omega
      have HX : Hid (IntsAt wr u6 (possS n gs)) := Lib.hid (ints_owned hown)
      have HF := Lib.hid ((Fresh.owned hown).mono hB2.size)
      clear hown
      go_wp2_with fail
      go_ret
      exact ⟨_, rfl, HX.out, HF.out, bel2' hB2 hbz⟩

set_option maxHeartbeats 1000000 in
theorem rposs_bad {vg : Value} {gs : List Grp} {n : Int} {w : World} (hg : PileAt w vg gs) (hn : okS n gs = false) :
    Calls Try.prog 15 #[.int .i64 n, vg] w fun e w' => e = .returned (.slice none 0 0) ∧ Below w.heap.size w w' := by
  have PV := rvalid_c hg n
  rw [hn] at PV
  have PV := Lib.hid PV
  clear hg hn
  go_enter Try.func15, Try.ntmps15
  go_wp2_with (go_at_call 44; ((with_reducible refine PV.out.mono ?_); rintro _ w1 ⟨rfl, hb1⟩))
  go_ret
  exact ⟨rfl, hb1⟩

set_option maxHeartbeats 1000000 in
theorem poss_bad {vg : Value} {gs : List Grp} {n : Int} {w : World} (hg : PileAt w vg gs) (hn : okS n gs = false) :
    Calls Try.prog 14 #[.int .i64 n, vg] w fun e w' => e = .returned (.slice none 0 0) ∧ Below w.heap.size w w' := by
  have PV := pvalid_c hg n
  rw [hn] at PV
  have PV := Lib.hid PV
  clear hg hn
  go_enter Try.func14, Try.ntmps14
  go_wp2_with (go_at_call 43; ((with_reducible refine PV.out.mono ?_); rintro _ w1 ⟨rfl, hb1⟩))
  go_ret
  exact ⟨rfl, hb1⟩

/-- What Possible gives, for any n and groups. -/
noncomputable def possZ (n : Int) (gs : List Grp) : List Int := if okS n gs = true then possS n.toNat gs else []
theorem ints_nil (w : World) : IntsAt w (.slice none 0 0) [] := RowAt.nil _
theorem poss_both {vg : Value} {gs : List Grp} {w : World} (hg : PileAt w vg gs) (n : Int) :
    Calls Try.prog 14 #[.int .i64 n, vg] w (fun e w' => ∃ v', e = .returned v' ∧ IntsAt w' v' (possZ n gs) ∧ Fresh w.heap.size v' ∧ Below w.heap.size w w') ∧
    Calls Try.prog 15 #[.int .i64 n, vg] w (fun e w' => ∃ v', e = .returned v' ∧ IntsAt w' v' (possZ n gs) ∧ Fresh w.heap.size v' ∧ Below w.heap.size w w') := by
  cases h : okS n gs with
  | false =>
    have e : possZ n gs = [] := by unfold possZ; rw [h]; rfl
    rw [e]
    exact ⟨(poss_bad hg h).mono (by rintro _ w' ⟨rfl, hb⟩; exact ⟨_, rfl, ints_nil _, Fresh.nil _, hb⟩), (rposs_bad hg h).mono (by rintro _ w' ⟨rfl, hb⟩; exact ⟨_, rfl, ints_nil _, Fresh.nil _, hb⟩)⟩
  | true =>
    have e : possZ n gs = possS n.toNat gs := by unfold possZ; rw [if_pos h]
    have hh := h
    unfold okS at hh
    rw [Bool.and_eq_true, Bool.and_eq_true, decide_eq_true_iff, decide_eq_true_iff, pile_true] at hh
    obtain ⟨m, rfl⟩ : ∃ m : Nat, n = m := ⟨n.toNat, by omega⟩
    rw [e, Int.toNat_natCast]
    exact ⟨possible_c hg (by omega) (by omega) hh.2, rpossible_c hg (by omega) (by omega) hh.2⟩

end Go.Proofs.Ytbnhgmikegdppaa

/- IrvRenames: the plain law and the walk. -/
namespace Go.Proofs.Nums

theorem perm_lots (n : Nat) (code : Int) : Lots n (permS n code) := ⟨perm_bal n code, perm_len n code⟩
theorem sig_sur (n : Nat) (code : Int) : ∀ y : Int, 0 ≤ y → y < n → ∃ c : Int, 0 ≤ c ∧ c < n ∧ sig n code c = y := fun y h0 h1 => by
  have hm := perm_mem (n := n) (code := code).2 ⟨h0, h1⟩
  obtain ⟨i, hi, e⟩ := List.getElem_of_mem hm
  rw [perm_len] at hi
  refine ⟨i, by omega, by omega, ?_⟩
  unfold sig
  rw [Int.toNat_natCast, List.getD_eq_getElem?_getD, List.getElem?_eq_getElem (by rw [perm_len]; exact hi), e]
  rfl
theorem ren_bal {n : Nat} {names : Int} {p : List Int} (h : BalP n p) : BalP n (renameS p (permS n names)) := by
  rw [rename_eq]
  refine ⟨fun c hc => ?_, ren_nodup (sig_ren n names) h⟩
  obtain ⟨x, hx, rfl⟩ := List.mem_map.1 hc
  exact (sig_ren n names).rng x (h.1 x hx).1 (h.1 x hx).2
theorem ren_lots {n : Nat} {names : Int} {lots : List Int} (h : Lots n lots) : Lots n (renameS lots (permS n names)) := ⟨ren_bal h.1, by rw [rename_eq, List.length_map]; exact h.2⟩
theorem order_rename {k : Nat} {code names T : Int} {gs : List Grp} (h1 : 1 ≤ k) (h7 : k ≤ 7) (t1 : 1 ≤ T) (t3 : T ≤ 3) (hp : PileP k gs) :
    orderS (brkS T (renameS (permS k code) (permS k names))) (renPileS (fun p => renameS p (permS k names)) gs) k (List.replicate k true) [] = renameS (orderS (brkS T (permS k code)) gs k (List.replicate k true) []) (permS k names) := by
  have hs := sig_ren k names
  refine order_ren hs (sig_sur k names) (gs := gs) ⟨fun g hg c hc => (hp.bal g hg).1 c hc, fun f => ?_⟩ (perm_lots k code) t1 t3 h1 h7 k (List.replicate k true) (List.replicate k true) [] [] ⟨by simp, by simp, fun c h0 h1 => ?_⟩ trivial
  · exact renPile_sum _ gs f
  · rw [rem_full]
    have := hs.rng c h0 h1
    show decide _ = decide _
    rw [decide_eq_true this, decide_eq_true ⟨h0, h1⟩]
theorem order_all {k : Nat} {T : Int} {lots : List Int} {gs : List Grp} (h1 : 1 ≤ k) (h7 : k ≤ 7) (t1 : 1 ≤ T) (t3 : T ≤ 3) (hl : Lots k lots) : (orderS (brkS T lots) gs k (List.replicate k true) []).length = k ∧ BalP k (orderS (brkS T lots) gs k (List.replicate k true) []) := by
  have hb := brk_in hl t1 t3 h1 h7
  have hp := order_perm (gs := gs) (brk := brkS T lots) k (List.replicate k true) [] (by rw [List.length_replicate]; exact hb) (by rw [alive_all_len]; exact Nat.le_refl _)
  refine ⟨by rw [hp.length_eq, alive_all_len], fun c hc => ?_, hp.nodup_iff.2 (sorted_nodup (alive_sorted _))⟩
  have := remB_lt (mem_alive.1 (hp.mem_iff.1 hc))
  rwa [List.length_replicate] at this

end Go.Proofs.Nums
namespace Go.Proofs.Ytbnhgmikegdppaa
open Go.RowKit Go.Proofs.Kit Go.Proofs.Nums

set_option maxHeartbeats 1000000 in
theorem renames_few (n code ties names : Int) {v : Value} {L : List (List Int)} {w : World} (hv : GridAt w v L) (hf : fewB L = false) :
    Calls Try.prog 5 #[.int .i64 n, .int .i64 code, .int .i64 ties, .int .i64 names, v] w fun e w' => e = .returned (.bool true) ∧ Below w.heap.size w w' := by
  have FW := few_c hv
  rw [hf] at FW
  have FW := Lib.hid FW
  clear hv hf
  go_enter Try.func5, Try.ntmps5
  go_wp2_with (first
    | (go_at_call 11; ((with_reducible refine FW.out.mono ?_); rintro _ w1 ⟨rfl, rfl⟩))
    | (go_at_call 12; ((with_reducible refine (awake26 _).mono ?_); rintro _ w2 ⟨rfl, hb2⟩)))
  go_ret
  exact ⟨rfl, hb2⟩

set_option maxRecDepth 100000 in
set_option maxHeartbeats 8000000 in
theorem walk_IrvRenames (n code : Int) (hc1 : -9223372036854775808 ≤ code) (hc2 : code ≤ 9223372036854775807) (ties names : Int) (hd1 : -9223372036854775808 ≤ names) (hd2 : names ≤ 9223372036854775807) {v : Value} {L : List (List Int)} {w : World} (hv : GridAt w v L) :
    Calls Try.prog 5 #[.int .i64 n, .int .i64 code, .int .i64 ties, .int .i64 names, v] w fun e w' => e = .returned (.bool true) ∧ Below w.heap.size w w' := by
  cases hf : fewB L with
  | false => exact renames_few n code ties names hv hf
  | true =>
  obtain ⟨hf1, hf2⟩ := few_true.1 hf
  have FW := few_c hv
  rw [hf] at FW
  have FW := Lib.hid FW
  obtain ⟨k, hk, k1, k7⟩ := mod_one n 7 (by omega)
  obtain ⟨z, hz⟩ : ∃ z, n % ((7 : Nat) : Int) = z := ⟨_, rfl⟩
  rw [hz] at hk
  have M7 : Hid (∀ w, Calls Try.prog 16 #[.int .i64 n, .int .i64 7] w fun e w' => e = .returned (.int .i64 z) ∧ w = w') := Lib.hid (fun w => by rw [← hz]; exact mod_c n 7 (by omega) (by omega) w)
  have e2 : IntKind.i64.wrap (k : Int) = k := w64 (by omega) (by omega)
  obtain ⟨T, hT⟩ : ∃ T, 1 + ties % 3 = T := ⟨_, rfl⟩
  have t1 : 1 ≤ T := by omega
  have t3 : T ≤ 3 := by omega
  have CO : Hid (∀ wq, Calls Try.prog 19 #[.int .i64 0, .int .i64 k, .int .i64 0, .int .i64 0, .int .i64 ties] wq fun e w' => ∃ p c, e = .returned (conC (conM p k c T)) ∧ Below wq.heap.size wq w') := Lib.hid (fun wq => by rw [← hT]; exact contest_c k (by omega) ties wq)
  have PL := Lib.hid (fun wq (h : Below w.heap.size w wq) => mpile_c (hv.keep h) k1 k7 hf1 hf2)
  have hgp := pile_pile (L := L) k1 hf2
  have P1 := Lib.hid (fun wq => perm_x k (by omega) code hc1 hc2 wq)
  have P2 := Lib.hid (fun wq => perm_x k (by omega) names hd1 hd2 wq)
  obtain ⟨gs, hgs⟩ : ∃ gs, pileB k L = gs := ⟨_, rfl⟩
  rw [hgs] at PL hgp
  have hl1 := perm_lots k code
  have hl2 := ren_lots (names := names) hl1
  have hg2 := renPile_pile (r := fun p => renameS p (permS k names)) hgp (fun g hg => ren_bal (hgp.bal g hg))
  have hoe := order_rename (code := code) (names := names) k1 k7 t1 t3 hgp
  have hoa := order_all (T := T) (gs := gs) k1 k7 t1 t3 hl1
  have htl := perm_len k names
  have htl1 := perm_len k code
  obtain ⟨lots, hlo⟩ : ∃ l, permS k code = l := ⟨_, rfl⟩
  obtain ⟨to, hto⟩ : ∃ l, permS k names = l := ⟨_, rfl⟩
  rw [hlo] at P1 hl1 hl2 hoe hoa htl1
  rw [hto] at P2 hl2 hg2 hoe htl
  have OD : Hid (∀ wq p c vg vl gs lots, PileAt wq vg gs → IntsAt wq vl lots → PileP k gs → Lots k lots → Calls Try.prog 29 #[conC (conM p k c T), vg, vl] wq fun e w' => ∃ v', e = .returned (.tuple #[v', .int .i64 0]) ∧ IntsAt w' v' (orderS (brkS T lots) gs k (List.replicate k true) []) ∧ Below wq.heap.size wq w') := Lib.hid (fun wq p c vg vl gs lots hg hl hp hlt => by
    refine (order_c (C := conM p k c T) hg hl (okA k1 k7 t1 t3 hp hlt)).mono ?_
    rintro e w' ⟨v', rfl, h1, _, h3⟩
    exact ⟨v', rfl, h1, h3⟩)
  obtain ⟨o, ho⟩ : ∃ o, orderS (brkS T lots) gs k (List.replicate k true) [] = o := ⟨_, rfl⟩
  rw [ho] at hoe hoa
  have OD1 : Hid (∀ wq p c vg vl, PileAt wq vg gs → IntsAt wq vl lots → Calls Try.prog 29 #[conC (conM p k c T), vg, vl] wq fun e w' => ∃ p' c', e = .returned (.tuple #[.slice p' k c', .int .i64 0]) ∧ IntsAt w' (.slice p' k c') o ∧ Below wq.heap.size wq w') := Lib.hid (fun wq p c vg vl h1 h2 => by
    refine (OD.out wq p c vg vl gs lots h1 h2 hgp hl1).mono ?_
    rintro e w' ⟨v', rfl, g1, g2⟩
    rw [ho] at g1
    obtain ⟨p', c', e'⟩ := g1.shape
    rw [hoa.1] at e'
    subst e'
    exact ⟨p', c', rfl, g1, g2⟩)
  have OD2 : Hid (∀ wq p c vg vl, PileAt wq vg (renPileS (fun p => renameS p to) gs) → IntsAt wq vl (renameS lots to) → Calls Try.prog 29 #[conC (conM p k c T), vg, vl] wq fun e w' => ∃ v', e = .returned (.tuple #[v', .int .i64 0]) ∧ IntsAt w' v' (renameS o to) ∧ Below wq.heap.size wq w') := Lib.hid (fun wq p c vg vl h1 h2 => by
    have := OD.out wq p c vg vl _ _ h1 h2 hg2 hl2
    rwa [hoe] at this)
  have RP := Lib.hid (fun wq vg vt (h1 : PileAt wq vg gs) (h2 : IntsAt wq vt to) => renpile_c h1 h2 hgp k7 htl)
  have RN := Lib.hid (fun wq vl vt (l : List Int) (hl : l.length = k) (hr : ∀ x ∈ l, 0 ≤ x ∧ x < (k : Int)) (h1 : IntsAt wq vl l) (h2 : IntsAt wq vt to) => rename_c h1 h2 (by omega) (fun x hx => by rw [htl]; exact hr x hx))
  have PM : Hid (∀ wq p' c', IntsAt wq (.slice p' k c') o → Calls Try.prog 32 #[.int .i64 k, .slice p' k c'] wq fun e w' => e = .returned (.bool true) ∧ Below wq.heap.size wq w') := Lib.hid (fun wq p' c' h => by
    have := permutation_c h
    rwa [hoa.1, show balS k o = true from decide_eq_true hoa.2] at this)
  have EQ : Hid (∀ wq va vb (l : List Int), IntsAt wq va l → IntsAt wq vb l → Calls Try.prog 13 #[va, vb] wq fun e w' => e = .returned (.bool true) ∧ Below wq.heap.size wq w') := Lib.hid (fun wq va vb l h1 h2 => by
    have := eq_c h1 h2
    rwa [decide_eq_true rfl] at this)
  have HL1 : Hid (lots.length = k ∧ ∀ x ∈ lots, 0 ≤ x ∧ x < (k : Int)) := Lib.hid ⟨hl1.2, hl1.1.1⟩
  have HOA : Hid (o.length = k ∧ ∀ x ∈ o, 0 ≤ x ∧ x < (k : Int)) := Lib.hid ⟨hoa.1, hoa.2.1⟩
  obtain ⟨pv, nv, cv, rfl⟩ : ∃ p n c, v = .slice p n c := by obtain ⟨p, c, e⟩ := hv.shp; exact ⟨_, _, _, e⟩
  clear hz hT hgp hl1 hl2 hg2 hoe hoa htl htl1 hlo hto ho OD hgs hf hf1 hf2 hv
  unfold conC conM conV nmV at CO OD1 OD2
  simp only at CO OD1 OD2
  go_enter Try.func5, Try.ntmps5
  go_wp2_with (first
    | (go_at_call 11; ((with_reducible refine FW.out.mono ?_); rintro _ w1 ⟨rfl, rfl⟩))
    | (go_at_call 16; ((with_reducible refine (M7.out _).mono ?_); rintro _ w2 ⟨rfl, rfl⟩))
    | (go_at_call 19; ((with_reducible refine (CO.out _).mono ?_); rintro _ w3 ⟨p, c, rfl, hb3⟩)))
  have K3 := Lib.hid (Blk.new w3 #[.string ⟨#[99]⟩, .slice p k c, .int .i64 1, .int .i64 1, .int .i64 0, .int .i64 0, .int .i64 T, .int .i64 0, .int .i64 0] 40)
  have b3 : Below w.heap.size w (w3.alloc (.cells #[.string ⟨#[99]⟩, .slice p k c, .int .i64 1, .int .i64 1, .int .i64 0, .int .i64 0, .int .i64 T, .int .i64 0, .int .i64 0] 40)) := below_al hb3 _
  obtain ⟨W3, hW3⟩ : ∃ W3, w3.alloc (.cells #[.string ⟨#[99]⟩, .slice p k c, .int .i64 1, .int .i64 1, .int .i64 0, .int .i64 0, .int .i64 T, .int .i64 0, .int .i64 0] 40) = W3 := ⟨_, rfl⟩
  rw [hW3] at K3 b3 ⊢
  clear hW3
  obtain ⟨B, hB⟩ : ∃ B, w3.heap.size = B := ⟨_, rfl⟩
  rw [hB] at K3 ⊢
  clear hB
  go_wp2_with (first
    | (go_at_call 17; ((with_reducible refine (PL.out _ b3).mono ?_); rintro _ w4 ⟨v4, rfl, h4, hb4⟩))
    | (go_at_call 20; ((with_reducible refine (P1.out _).mono ?_); rintro _ w5 ⟨v5, rfl, h5, _, hb5⟩; have b5 := bel2' hb4 hb5))
    | (go_at_call 20; ((with_reducible refine (P2.out _).mono ?_); rintro _ w6 ⟨v6, rfl, h6, _, hb6⟩; have b6 := bel2' b5 hb6; obtain ⟨x0, x1, x2, x3, x4, x5, x6, x7, x8⟩ := nine_cells (K3.out.keep b6); have h46 := h4.keep (bel2' hb5 hb6); have h56 := h5.keep hb6))
    | (go_at_call 29; ((with_reducible refine (OD1.out _ _ _ _ _ h46 h56).mono ?_); rintro _ w7 ⟨p7, c7, rfl, h7, hb7⟩; have b7 := bel2' b6 hb7; have H47 := Lib.hid (h46.keep hb7); have H57 := Lib.hid (h56.keep hb7); have H67 := Lib.hid (h6.keep hb7))))
  have hd7 : Below w7.heap.size w7 w7.drew := (Below.refl _ _).drew
  have b7d : Below W3.heap.size W3 w7.drew := b7.drew
  have H7 := Lib.hid h7
  clear x0 x1 x2 x3 x4 x5 x6 x7 x8 h7 h46 h56 h4 h5 h6
  go_region_held3 (fun w' => w'.cell? ⟨B, 0, none⟩ = some (.string ⟨#[99]⟩) ∧ w'.cell? ⟨B, 1, none⟩ = some (.slice p k c) ∧ w'.cell? ⟨B, 2, none⟩ = some (.int .i64 1) ∧ w'.cell? ⟨B, 3, none⟩ = some (.int .i64 1) ∧ w'.cell? ⟨B, 4, none⟩ = some (.int .i64 0) ∧ w'.cell? ⟨B, 5, none⟩ = some (.int .i64 0) ∧ w'.cell? ⟨B, 6, none⟩ = some (.int .i64 T) ∧ w'.cell? ⟨B, 7, none⟩ = some (.int .i64 0) ∧ w'.cell? ⟨B, 8, none⟩ = some (.int .i64 0))
    (first | exact nine_cells (K3.out.keep b10) | exact nine_cells (K3.out.keep b9) | exact nine_cells (K3.out.keep b8) | exact nine_cells (K3.out.keep b7d))
    (first
      | (go_at_call 30; ((with_reducible refine (RP.out _ _ _ (H47.out.keep hd7) (H67.out.keep hd7)).mono ?_); rintro _ w8 ⟨v8, rfl, h8, hb8⟩; have hd8 := bel2' hd7 hb8; have b8 := bel2' b7d hb8))
      | (go_at_call 31; ((with_reducible refine (RN.out _ _ _ _ HL1.out.1 HL1.out.2 (H57.out.keep hd8) (H67.out.keep hd8)).mono ?_); rintro _ w9 ⟨v9, rfl, h9, _, hb9⟩; have hd9 := bel2' hd8 hb9; have b9 := bel2' b8 hb9; have h89 := h8.keep hb9))
      | (go_at_call 29; ((with_reducible refine (OD2.out _ _ _ _ _ h89 h9).mono ?_); rintro _ w10 ⟨v10, rfl, h10, hb10⟩; have hd10 := bel2' hd9 hb10; have b10 := bel2' b9 hb10)))
  all_goals
    have h710 := H7.out.keep hd10
    have h610 := H67.out.keep hd10
    go_wp2_with (first
      | (go_at_call 32; ((with_reducible refine (PM.out _ _ _ h710).mono ?_); rintro _ w11 ⟨rfl, hb11⟩))
      | (go_at_call 12; ((with_reducible refine (awake26 _).mono ?_); rintro _ w12 ⟨rfl, hb12⟩; have hb12' := bel2' hb11 hb12))
      | (go_at_call 31; ((with_reducible refine (RN.out _ _ _ _ HOA.out.1 HOA.out.2 (h710.keep hb12') (h610.keep hb12')).mono ?_); rintro _ w13 ⟨v13, rfl, h13, _, hb13⟩; have hb13' := bel2' hb12' hb13))
      | (go_at_call 13; ((with_reducible refine (EQ.out _ _ _ _ (h10.keep hb13') h13).mono ?_); rintro _ w14 ⟨rfl, hb14⟩)))
    go_ret
    exact ⟨rfl, bel2' (bel2' (bel2' b3 b10) hb13') hb14⟩

end Go.Proofs.Ytbnhgmikegdppaa

/- IrvPossible: the plain law and the walk. -/
namespace Go.Proofs.Nums

theorem agree_last : ∀ {R : List Rnd} {o : List Int}, Agree R o → ∃ w, (∃ r, R.getLast? = some r ∧ r.el = [w]) ∧ o.getLast? = some w
  | [], o, h => h.elim
  | [r], o, h => by
    obtain ⟨w, h1, _, h3⟩ := h
    exact ⟨w, ⟨r, rfl, h1⟩, h3⟩
  | r :: r' :: t, o, h => by
    obtain ⟨x, o', rfl, _, _, h4⟩ := h
    obtain ⟨w, ⟨q, hq, hw⟩, ho⟩ := agree_last h4
    refine ⟨w, ⟨q, by rw [List.getLast?_cons_cons]; exact hq, hw⟩, ?_⟩
    cases o' with
    | nil => simp at ho
    | cons a b => rw [List.getLast?_cons_cons]; exact ho
/-- The winner of a count. -/
def winS (T : Int) (lots : List Int) (gs : List Grp) (k : Nat) : Int := ((orderS (brkS T lots) gs k (List.replicate k true) []).getLast?).getD (-1)
theorem order_some {T : Int} {lots : List Int} {gs : List Grp} {k : Nat} (h1 : 1 ≤ k) (h7 : k ≤ 7) (t1 : 1 ≤ T) (t3 : T ≤ 3) (hl : Lots k lots) : (orderS (brkS T lots) gs k (List.replicate k true) []).getLast? = some (winS T lots gs k) ∧ Rch k gs (single (winS T lots gs k)) := by
  obtain ⟨w, hw, hr⟩ := order_can (brk := brkS T lots) (gs := gs) (n := (k : Int)) k (List.replicate k true) [] (by rw [List.length_replicate]; exact brk_in hl t1 t3 h1 h7) (by rw [alive_all_len]; exact Nat.le_refl _) (fun e => by have := alive_all_len k; rw [e] at this; simp at this; omega) (by rw [rem_full]; exact Rch.full)
  have e : winS T lots gs k = w := by unfold winS; rw [hw]; rfl
  rw [e]
  exact ⟨hw, hr⟩
theorem win_in {T : Int} {lots : List Int} {gs : List Grp} {k : Nat} (h1 : 1 ≤ k) (h7 : k ≤ 7) (t1 : 1 ≤ T) (t3 : T ≤ 3) (hl : Lots k lots) : winS T lots gs k ∈ possS k gs := by
  have h := (order_some (gs := gs) h1 h7 t1 t3 hl).2
  have hw := h.range (winS T lots gs k) (by unfold single; simp)
  exact mem_poss.2 ⟨hw.1, hw.2, h⟩
theorem win_of_count {T : Int} {lots : List Int} {gs : List Grp} {k : Nat} {x : Int} (hp : PosG gs) (h1 : 1 ≤ k) (h7 : k ≤ 7) (t1 : 1 ≤ T) (t3 : T ≤ 3) (hl : Lots k lots) (h : ∃ r ∈ (countS false (brkS T lots) gs k (List.replicate k true) []).getLast?, r.el = [x]) : x = winS T lots gs k := by
  have ha := count_agree (brk := brkS T lots) hp k (List.replicate k true) [] (by rw [List.length_replicate]; exact brk_in hl t1 t3 h1 h7) (by rw [alive_all_len]; exact Nat.le_refl _) (fun e => by have := alive_all_len k; rw [e] at this; simp at this; omega)
  obtain ⟨w, ⟨r, hr, hw⟩, ho⟩ := agree_last ha
  obtain ⟨r', hr', hx⟩ := h
  rw [hr] at hr'
  simp only [Option.mem_def, Option.some.injEq] at hr'
  subst hr'
  rw [hw] at hx
  have e : winS T lots gs k = w := by unfold winS; rw [ho]; rfl
  rw [e]
  simpa using hx.symm
theorem all_lots1 : ∃ c, c < 24 ∧ permS 1 (c : Nat) = [0] := ⟨0, by decide, by decide +kernel⟩
theorem all_lots2 : ∀ a < 2, ∀ b < 2, [(a : Nat), b].Nodup → ∃ c, c < 24 ∧ permS 2 (c : Nat) = [(a : Int), (b : Int)] := by decide +kernel
theorem all_lots3 : ∀ a < 3, ∀ b < 3, ∀ c < 3, [(a : Nat), b, c].Nodup → ∃ i, i < 24 ∧ permS 3 (i : Nat) = [(a : Int), (b : Int), (c : Int)] := by decide +kernel
def four (a b c d : Nat) : Bool := !decide ([a, b, c, d].Nodup) || (List.range 24).any fun i => decide (permS 4 (i : Nat) = [(a : Int), (b : Int), (c : Int), (d : Int)])
theorem all_four : ((List.range 4).all fun a => (List.range 4).all fun b => (List.range 4).all fun c => (List.range 4).all fun d => four a b c d) = true := by decide +kernel
theorem all_lots4 (a : Nat) (ha : a < 4) (b : Nat) (hb : b < 4) (c : Nat) (hc : c < 4) (d : Nat) (hd : d < 4) (hn : [(a : Nat), b, c, d].Nodup) : ∃ i, i < 24 ∧ permS 4 (i : Nat) = [(a : Int), (b : Int), (c : Int), (d : Int)] := by
  have h := all_four
  rw [List.all_eq_true] at h
  have h := h a (List.mem_range.2 ha)
  rw [List.all_eq_true] at h
  have h := h b (List.mem_range.2 hb)
  rw [List.all_eq_true] at h
  have h := h c (List.mem_range.2 hc)
  rw [List.all_eq_true] at h
  have h := h d (List.mem_range.2 hd)
  unfold four at h
  rw [decide_eq_true hn, Bool.not_true, Bool.false_or, List.any_eq_true] at h
  obtain ⟨i, hi, h⟩ := h
  exact ⟨i, List.mem_range.1 hi, of_decide_eq_true h⟩
theorem nat_list {l : List Int} {n : Nat} (h : ∀ x ∈ l, 0 ≤ x ∧ x < (n : Int)) : ∃ m : List Nat, l = m.map (fun i : Nat => (i : Int)) ∧ ∀ x ∈ m, x < n := by
  refine ⟨l.map Int.toNat, ?_, fun x hx => ?_⟩
  · rw [List.map_map]
    have : ∀ x ∈ l, ((fun i : Nat => (i : Int)) ∘ Int.toNat) x = x := fun x hx => by
      show ((x.toNat : Nat) : Int) = x
      have := h x hx; omega
    rw [List.map_congr_left this, List.map_id']
  · obtain ⟨y, hy, rfl⟩ := List.mem_map.1 hx
    have := h y hy
    omega
theorem lots_code {n : Nat} (h1 : 1 ≤ n) (h4 : n ≤ 4) {lots : List Int} (hl : Lots n lots) : ∃ c, c < 24 ∧ permS n (c : Nat) = lots := by
  obtain ⟨⟨hr, hn⟩, hlen⟩ := hl
  obtain ⟨m, rfl, hm⟩ := nat_list hr
  have hmn : m.Nodup := by
    refine List.Pairwise.of_map (fun i : Nat => (i : Int)) (fun a b hab => ?_) hn
    intro e; exact hab (by rw [e])
  rw [List.length_map] at hlen
  have : n = 1 ∨ n = 2 ∨ n = 3 ∨ n = 4 := by omega
  rcases this with rfl | rfl | rfl | rfl
  · match m, hlen with
    | [a], _ =>
      have := hm a (by simp)
      obtain rfl : a = 0 := by omega
      exact all_lots1
  · match m, hlen with
    | [a, b], _ => exact all_lots2 a (hm a (by simp)) b (hm b (by simp)) hmn
  · match m, hlen with
    | [a, b, c], _ => exact all_lots3 a (hm a (by simp)) b (hm b (by simp)) c (hm c (by simp)) hmn
  · match m, hlen with
    | [a, b, c, d], _ => exact all_lots4 a (hm a (by simp)) b (hm b (by simp)) c (hm c (by simp)) d (hm d (by simp)) hmn
/-- The winners for the first i codes, by lot alone. -/
def winsTo (gs : List Grp) (k i : Nat) : List Int := (List.range i).map fun c : Nat => winS 3 (permS k (c : Int)) gs k
theorem wins_step (gs : List Grp) (k i : Nat) : winsTo gs k (i + 1) = winsTo gs k i ++ [winS 3 (permS k (i : Int)) gs k] := by
  unfold winsTo
  rw [List.range_succ, List.map_append]
  rfl
theorem wins_all {gs : List Grp} {k : Nat} (h1 : 1 ≤ k) (h4 : k ≤ 4) : risingS (winsTo gs k 24) = possS k gs := by
  refine sorted_ext (rising_sorted _) (poss_sorted k gs) fun x => ?_
  rw [mem_rising]
  constructor
  · rintro ⟨_, _, h⟩
    obtain ⟨c, _, rfl⟩ := List.mem_map.1 h
    exact win_in h1 (by omega) (by omega) (by omega) (perm_lots k c)
  · intro hx
    obtain ⟨h0, hk, hr⟩ := mem_poss.1 hx
    obtain ⟨lots, hl, hw⟩ := can_lots h1 (by omega) hr
    obtain ⟨c, hc, rfl⟩ := lots_code h1 h4 hl
    refine ⟨h0, by omega, List.mem_map.2 ⟨c, List.mem_range.2 hc, ?_⟩⟩
    unfold winS
    rw [hw]
    rfl

end Go.Proofs.Nums
namespace Go.Proofs.Ytbnhgmikegdppaa
open Go.RowKit Go.Proofs.Kit Go.Proofs.Nums

theorem count_w {p : Option Addr} {c k : Nat} {T : Int} {vg vl : Value} {gs : List Grp} {lots : List Int} {w : World} (hg : PileAt w vg gs) (hl : IntsAt w vl lots) (h1 : 1 ≤ k) (h7 : k ≤ 7) (t1 : 1 ≤ T) (t3 : T ≤ 3) (hp : PileP k gs) (hlt : Lots k lots) :
    Calls Try.prog 18 #[.agg #[.string ⟨#[99]⟩, .slice p k c, .int .i64 1, .int .i64 1, .int .i64 0, .int .i64 0, .int .i64 T, .int .i64 0, .int .i64 0], vg, vl] w fun e w' => ∃ pr nr cr pw cw, e = .returned (.tuple #[.agg #[.int .i64 1, .int .i64 1, .int .i64 0, .int .i64 k, .slice pr nr cr, .slice pw 1 cw], .int .i64 0]) ∧
      SliceOf rndR 14 w' (.slice pr nr cr) (countS false (brkS T lots) gs k (List.replicate k true) []) ∧ IntsAt w' (.slice pw 1 cw) [winS T lots gs k] ∧ Below w.heap.size w w' := by
  refine (count_c (C := conM p k c T) hg hl (okA h1 h7 t1 t3 hp hlt)).mono ?_
  rintro e w' ⟨vr, vw, x, rfl, g1, g2, g3, g4⟩
  have hx := win_of_count hp.pos h1 h7 t1 t3 hlt g3.out
  subst hx
  obtain ⟨pr, cr, rfl, _, _⟩ := g1.shape
  obtain ⟨pw, cw, rfl⟩ := g2.shape
  exact ⟨pr, _, cr, pw, cw, rfl, g1, g2, g4⟩

set_option maxHeartbeats 1000000 in
theorem poss_few {vg : Value} {gs : List Grp} (raw : Bool) (n code ties : Int) {v : Value} {L : List (List Int)} {w : World} (hg : PileAt w vg gs) (hv : GridAt w v L) (hf : shortB gs = false ∨ fewB L = false) :
    Calls Try.prog 3 #[vg, .bool raw, .int .i64 n, .int .i64 code, .int .i64 ties, v] w fun e w' => e = .returned (.bool true) ∧ Below w.heap.size w w' := by
  have SW := short_gc hg
  have FW := few_c hv
  cases h1 : shortB gs with
  | false =>
    rw [h1] at SW
    have SW := Lib.hid SW
    clear hg hv hf FW h1
    go_enter Try.func3, Try.ntmps3
    go_wp2_with (first
      | (go_at_call 10; ((with_reducible refine SW.out.mono ?_); rintro _ w1 ⟨rfl, rfl⟩))
      | (go_at_call 12; ((with_reducible refine (awake26 _).mono ?_); rintro _ w2 ⟨rfl, hb2⟩)))
    go_ret
    exact ⟨rfl, hb2⟩
  | true =>
    have h2 : fewB L = false := by
      rcases hf with h | h
      · rw [h1] at h; simp at h
      · exact h
    rw [h1] at SW
    rw [h2] at FW
    have SW := Lib.hid SW
    have FW := Lib.hid FW
    clear hg hv hf h1 h2
    go_enter Try.func3, Try.ntmps3
    go_wp2_with (first
      | (go_at_call 10; ((with_reducible refine SW.out.mono ?_); rintro _ w1 ⟨rfl, rfl⟩))
      | (go_at_call 11; ((with_reducible refine FW.out.mono ?_); rintro _ w1 ⟨rfl, rfl⟩))
      | (go_at_call 12; ((with_reducible refine (awake26 _).mono ?_); rintro _ w2 ⟨rfl, hb2⟩)))
    go_ret
    exact ⟨rfl, hb2⟩

set_option maxHeartbeats 1000000 in
theorem poss_raw {vg : Value} {gs : List Grp} (n code ties : Int) {v : Value} {L : List (List Int)} {w : World} (hg : PileAt w vg gs) (hv : GridAt w v L) (h1 : shortB gs = true) (h2 : fewB L = true) :
    Calls Try.prog 3 #[vg, .bool true, .int .i64 n, .int .i64 code, .int .i64 ties, v] w fun e w' => e = .returned (.bool true) ∧ Below w.heap.size w w' := by
  have SW := short_gc hg
  have FW := few_c hv
  rw [h1] at SW
  rw [h2] at FW
  have SW := Lib.hid SW
  have FW := Lib.hid FW
  obtain ⟨l, hl⟩ : ∃ l, possZ n gs = l := ⟨_, rfl⟩
  have P1 : Hid (∀ wq, Below w.heap.size w wq → Calls Try.prog 14 #[.int .i64 n, vg] wq fun e w' => ∃ v', e = .returned v' ∧ IntsAt w' v' l ∧ Below wq.heap.size wq w') := Lib.hid (fun wq h => (poss_both (hg.keep h) n).1.mono (by rintro e w' ⟨v', rfl, g1, _, g3⟩; rw [hl] at g1; exact ⟨v', rfl, g1, g3⟩))
  have P2 : Hid (∀ wq, Below w.heap.size w wq → Calls Try.prog 15 #[.int .i64 n, vg] wq fun e w' => ∃ v', e = .returned v' ∧ IntsAt w' v' l ∧ Below wq.heap.size wq w') := Lib.hid (fun wq h => (poss_both (hg.keep h) n).2.mono (by rintro e w' ⟨v', rfl, g1, _, g3⟩; rw [hl] at g1; exact ⟨v', rfl, g1, g3⟩))
  have EQ : Hid (∀ wq va vb, IntsAt wq va l → IntsAt wq vb l → Calls Try.prog 13 #[va, vb] wq fun e w' => e = .returned (.bool true) ∧ Below wq.heap.size wq w') := Lib.hid (fun wq va vb h1 h2 => by
    have := eq_c h1 h2
    rwa [decide_eq_true rfl] at this)
  clear hg hv h1 h2 hl
  go_enter Try.func3, Try.ntmps3
  go_wp2_with (first
    | (go_at_call 10; ((with_reducible refine SW.out.mono ?_); rintro _ w1 ⟨rfl, rfl⟩))
    | (go_at_call 11; ((with_reducible refine FW.out.mono ?_); rintro _ w1 ⟨rfl, rfl⟩))
    | (go_at_call 12; ((with_reducible refine (awake26 _).mono ?_); rintro _ w2 ⟨rfl, hb2⟩))
    | (go_at_call 14; ((with_reducible refine (P1.out _ hb2).mono ?_); rintro _ w3 ⟨v3, rfl, h3, hb3⟩; have b3 := bel2' hb2 hb3))
    | (go_at_call 15; ((with_reducible refine (P2.out _ b3).mono ?_); rintro _ w4 ⟨v4, rfl, h4, hb4⟩; have b4 := bel2' b3 hb4; have h34 := h3.keep hb4))
    | (go_at_call 13; ((with_reducible refine (EQ.out _ _ _ h34 h4).mono ?_); rintro _ w5 ⟨rfl, hb5⟩)))
  go_ret
  exact ⟨rfl, bel2' b4 hb5⟩

set_option maxRecDepth 100000 in
set_option maxHeartbeats 8000000 in
theorem poss_made {vg : Value} {gs0 : List Grp} (n code ties : Int) (hc1 : -9223372036854775808 ≤ code) (hc2 : code ≤ 9223372036854775807) {v : Value} {L : List (List Int)} {w : World} (hg : PileAt w vg gs0) (hv : GridAt w v L) (h1 : shortB gs0 = true) (h2 : fewB L = true) :
    Calls Try.prog 3 #[vg, .bool false, .int .i64 n, .int .i64 code, .int .i64 ties, v] w fun e w' => e = .returned (.bool true) ∧ Below w.heap.size w w' := by
  have SW := short_gc hg
  have FW := few_c hv
  rw [h1] at SW
  rw [h2] at FW
  have SW := Lib.hid SW
  have FW := Lib.hid FW
  obtain ⟨hf1, hf2⟩ := few_true.1 h2
  obtain ⟨k, hk, k1, k4⟩ := mod_one n 4 (by omega)
  obtain ⟨z, hz⟩ : ∃ z, n % ((4 : Nat) : Int) = z := ⟨_, rfl⟩
  rw [hz] at hk
  have M4 : Hid (∀ w, Calls Try.prog 16 #[.int .i64 n, .int .i64 4] w fun e w' => e = .returned (.int .i64 z) ∧ w = w') := Lib.hid (fun w => by rw [← hz]; exact mod_c n 4 (by omega) (by omega) w)
  have e2 : IntKind.i64.wrap (k : Int) = k := w64 (by omega) (by omega)
  obtain ⟨T, hT⟩ : ∃ T, 1 + ties % 3 = T := ⟨_, rfl⟩
  have t1 : 1 ≤ T := by omega
  have t3 : T ≤ 3 := by omega
  have CO : Hid (∀ wq, Calls Try.prog 19 #[.int .i64 0, .int .i64 k, .int .i64 0, .int .i64 0, .int .i64 ties] wq fun e w' => ∃ p c, e = .returned (conC (conM p k c T)) ∧ Below wq.heap.size wq w') := Lib.hid (fun wq => by rw [← hT]; exact contest_c k (by omega) ties wq)
  have CO3 : Hid (∀ wq, Calls Try.prog 19 #[.int .i64 0, .int .i64 k, .int .i64 0, .int .i64 0, .int .i64 2] wq fun e w' => ∃ p c, e = .returned (conC (conM p k c 3)) ∧ Below wq.heap.size wq w') := Lib.hid (fun wq => contest_c k (by omega) 2 wq)
  have PL := Lib.hid (fun wq (h : Below w.heap.size w wq) => mpile_c (hv.keep h) k1 (by omega) hf1 hf2)
  have hgp := pile_pile (L := L) k1 hf2
  have P1 := Lib.hid (fun wq => perm_x k (by omega) code hc1 hc2 wq)
  obtain ⟨gs, hgs⟩ : ∃ gs, pileB k L = gs := ⟨_, rfl⟩
  rw [hgs] at PL hgp
  have CT := Lib.hid (fun wq p c vg vl (h1 : PileAt wq vg gs) (h2 : IntsAt wq vl (permS k code)) => count_w (p := p) (c := c) h1 h2 k1 (by omega) t1 t3 hgp (perm_lots k code))
  have CL := Lib.hid (fun wq p c vg vl (i : Nat) (h1 : PileAt wq vg gs) (h2 : IntsAt wq vl (permS k (i : Int))) => count_w (p := p) (c := c) h1 h2 k1 (by omega) (show (1 : Int) ≤ 3 by omega) (Int.le_refl 3) hgp (perm_lots k i))
  have PO := Lib.hid (fun wq vg (h : PileAt wq vg gs) => possible_c h k1 (by omega) hgp)
  have RO := Lib.hid (fun wq vg (h : PileAt wq vg gs) => rpossible_c h k1 (by omega) hgp)
  have hwin := win_in (gs := gs) k1 (show k ≤ 7 by omega) t1 t3 (perm_lots k code)
  have hwa := wins_all (gs := gs) k1 k4
  have HST := Lib.hid (fun i => wins_step gs k i)
  obtain ⟨x, hx⟩ : ∃ x, winS T (permS k code) gs k = x := ⟨_, rfl⟩
  obtain ⟨ps, hps⟩ : ∃ ps, possS k gs = ps := ⟨_, rfl⟩
  rw [hx] at CT hwin
  rw [hps] at PO RO hwin hwa
  have HHAS : Hid (hasB ps x = true) := Lib.hid (hasB_true.2 hwin)
  have HWA := Lib.hid hwa
  have EQ : Hid (∀ wq va vb (l : List Int), IntsAt wq va l → IntsAt wq vb l → Calls Try.prog 13 #[va, vb] wq fun e w' => e = .returned (.bool true) ∧ Below wq.heap.size wq w') := Lib.hid (fun wq va vb l h1 h2 => by
    have := eq_c h1 h2
    rwa [decide_eq_true rfl] at this)
  obtain ⟨lots, hlo⟩ : ∃ l, permS k code = l := ⟨_, rfl⟩
  rw [hlo] at P1 CT
  obtain ⟨pv, nv, cv, rfl⟩ : ∃ p n c, v = .slice p n c := by obtain ⟨p, c, e⟩ := hv.shp; exact ⟨_, _, _, e⟩
  clear hz hT hgp hgs hf1 hf2 hv hg h1 h2 hlo hx hps hwin hwa
  unfold conC conM conV nmV at CO CO3
  simp only at CO CO3
  go_enter Try.func3, Try.ntmps3
  go_wp2_with (first
    | (go_at_call 10; ((with_reducible refine SW.out.mono ?_); rintro _ w1 ⟨rfl, rfl⟩))
    | (go_at_call 11; ((with_reducible refine FW.out.mono ?_); rintro _ w1 ⟨rfl, rfl⟩))
    | (go_at_call 16; ((with_reducible refine (M4.out _).mono ?_); rintro _ w2 ⟨rfl, rfl⟩))
    | (go_at_call 17; ((with_reducible refine (PL.out _ (Below.refl _ _)).mono ?_); rintro _ w3 ⟨v3, rfl, h3, hb3⟩))
    | (go_at_call 14; ((with_reducible refine (PO.out _ _ h3).mono ?_); rintro _ w4 ⟨v4, rfl, h4, _, hb4⟩; have b4 := bel2' hb3 hb4; have h34 := h3.keep hb4))
    | (go_at_call 19; ((with_reducible refine (CO.out _).mono ?_); rintro _ w5 ⟨p, c, rfl, hb5⟩; have b5 := bel2' b4 hb5))
    | (go_at_call 20; ((with_reducible refine (P1.out _).mono ?_); rintro _ w6 ⟨v6, rfl, h6, _, hb6⟩; have b6 := bel2' b5 hb6; have h46 := h4.keep (bel2' hb5 hb6); have h36 := h34.keep (bel2' hb5 hb6)))
    | (go_at_call 18; ((with_reducible refine (CT.out _ _ _ _ _ h36 h6).mono ?_); rintro _ w7 ⟨pr, nr, cr, pw, cw, rfl, _, h7, hb7⟩; have b7 := bel2' b6 hb7; have h47 := h46.keep hb7; have h37 := h36.keep hb7)))
  have b8 := below_al b7 (.cells #[.int .i64 1, .int .i64 1, .int .i64 0, .int .i64 k, .slice pr nr cr, .slice pw 1 cw] 34)
  have a8 : Below w7.heap.size w7 (w7.alloc (.cells #[.int .i64 1, .int .i64 1, .int .i64 0, .int .i64 k, .slice pr nr cr, .slice pw 1 cw] 34)) := below_al (Below.refl _ _) _
  have K8 := Blk.new w7 #[.int .i64 1, .int .i64 1, .int .i64 0, .int .i64 k, .slice pr nr cr, .slice pw 1 cw] 34
  obtain ⟨W8, hW8⟩ : ∃ W, w7.alloc (.cells #[.int .i64 1, .int .i64 1, .int .i64 0, .int .i64 k, .slice pr nr cr, .slice pw 1 cw] 34) = W := ⟨_, rfl⟩
  rw [hW8] at b8 a8 K8 ⊢
  have h38 := h37.keep a8
  have H48 := Lib.hid (h47.keep a8)
  have H78 := Lib.hid (h7.keep a8)
  have K8 := Lib.hid K8
  clear hW8 h3 h4 h6 h7 h34 h46 h36 h37 h47
  go_wp2_with (first
    | (go_at_call 15; ((with_reducible refine (RO.out _ _ h38).mono ?_); rintro _ w9 ⟨v9, rfl, h9, _, hb9⟩; have b9 := bel2' b8 hb9; have h49 := H48.out.keep hb9))
    | (go_at_call 13; ((with_reducible refine (EQ.out _ _ _ _ h49 h9).mono ?_); rintro _ w10 ⟨rfl, hb10⟩; have a10 := bel2' hb9 hb10; have b10 := bel2' b8 a10; have h410 := H48.out.keep a10; have h710 := H78.out.keep a10; have x5 : w10.cell? ⟨w7.heap.size, 5, none⟩ = some (.slice pw 1 cw) := (K8.out.keep a10).2.1 5; obtain ⟨bw, ow, ew, _, hcw, cx⟩ := h710.cellAt 0 (by simp); subst ew; simp only [Nat.add_zero, List.getD_cons_zero] at cx; have HA := has_c h410 x; rw [HHAS.out] at HA))
    | (go_at_call 21; ((with_reducible refine HA.mono ?_); rintro _ _ ⟨rfl, rfl⟩)))
  have H310 := Lib.hid (h38.keep a10)
  have H410 := Lib.hid h410
  clear x5 cx h710 h410 HA h49 h9 h38
  go_loopw [16, 17] (fun ov iv wr => ∃ i : Nat, i ≤ 24 ∧ iv = .int .i64 i ∧ wr.ownsRow w10.heap.size 3 1 ov i ((winsTo gs k i).map (Value.int .i64)) ∧ Below w10.heap.size w10 wr) (fun _ iv _ => 24 - (intOf iv).toNat)
  case atStart => exact ⟨0, by omega, rfl, (World.ownsRow_nil _ _ _ _ : w10.ownsRow w10.heap.size 3 1 (.slice none 0 0) 0 []), Below.refl _ _⟩
  case round =>
    obtain ⟨i, hi, rfl, hown, hbel⟩ := hrel
    by_cases hlt : i < 24
    · have hltz : (i : Int) < 24 := by omega
      have P2 := Lib.hid (fun wq => perm_x k (by omega) (i : Int) (by omega) (by omega) wq)
      have hown := Lib.hid hown
      have hbs := hbel.size
      go_wp2_with (first
        | (go_at_call 19; ((with_reducible refine (CO3.out _).mono ?_); rintro _ w11 ⟨p3, c3, rfl, hb11⟩))
        | (go_at_call 20; ((with_reducible refine (P2.out _).mono ?_); rintro _ w12 ⟨v12, rfl, h12, _, hb12⟩; have b12 := bel2' hb11 hb12; have h312 := (H310.out.keep hbel).keep b12))
        | (go_at_call 18; ((with_reducible refine (CL.out _ _ _ _ _ _ h312 h12).mono ?_); rintro _ w13 ⟨pr3, nr3, cr3, pw3, cw3, rfl, _, h13, hb13⟩; have b13 := bel2' b12 hb13; have a14 : Below w13.heap.size w13 (w13.alloc (.cells #[.int .i64 1, .int .i64 1, .int .i64 0, .int .i64 k, .slice pr3 nr3 cr3, .slice pw3 1 cw3] 34)) := below_al (Below.refl _ _) _; have b14 := bel2' b13 a14; have x5 : (w13.alloc (.cells #[.int .i64 1, .int .i64 1, .int .i64 0, .int .i64 k, .slice pr3 nr3 cr3, .slice pw3 1 cw3] 34)).cell? ⟨w13.heap.size, 5, none⟩ = some (.slice pw3 1 cw3) := (Blk.new w13 #[.int .i64 1, .int .i64 1, .int .i64 0, .int .i64 k, .slice pr3 nr3 cr3, .slice pw3 1 cw3] 34).2.1 5; have h14 := h13.keep a14; have hown14 := ownsRow_below hown.out b14; have B14 := hbel.trans (b14.mono hbs)))
        | (at_builtin; go_must (refine append_read erI (by rfl) (by rfl) hown14 (by rfl) h14 (by rfl) (ints_one _) (by simp; omega) (by simp; omega) (by first | exact B14.size | (have := B14.size; simpa using this)) ?_); intro v15 w15 hown15 hb15))
      have HO : Hid (w15.ownsRow w10.heap.size 3 1 v15 (i + 1) ((winsTo gs k (i + 1)).map (Value.int .i64))) := Lib.hid (by rw [HST.out, List.map_append]; exact hown15)
      go_roundw
      case rel => exact ⟨i + 1, by omega, by go_num, HO.out, B14.trans hb15⟩
      case measure => simp [intOf] <;> omega
    · obtain rfl : i = 24 := by omega
      have HI : Hid (IntsAt wr u16 (winsTo gs k 24)) := Lib.hid (ints_owned hown)
      clear hown
      go_wp2_with (first
        | (go_at_call 12; ((with_reducible refine (awake26 _).mono ?_); rintro _ w16 ⟨rfl, hb16⟩; have b16 := bel2' hbel hb16))
        | (go_at_call 22; ((with_reducible refine (rising_c (HI.out.keep hb16)).mono ?_); rintro _ w17 ⟨v17, rfl, h17, _, hb17⟩; rw [HWA.out] at h17; have b17 := bel2' b16 hb17))
        | (go_at_call 13; ((with_reducible refine (EQ.out _ _ _ _ h17 (H410.out.keep b17)).mono ?_); rintro _ w18 ⟨rfl, hb18⟩)))
      go_ret
      exact ⟨rfl, bel2' (bel2' b10 b17) hb18⟩

theorem walk_IrvPossible {vg : Value} {gs : List Grp} {w : World} (hg : PileAt w vg gs) (raw : Bool) (n code : Int) (hc1 : -9223372036854775808 ≤ code) (hc2 : code ≤ 9223372036854775807) (ties : Int) {v : Value} {L : List (List Int)} (hv : GridAt w v L) :
    Calls Try.prog 3 #[vg, .bool raw, .int .i64 n, .int .i64 code, .int .i64 ties, v] w fun e w' => e = .returned (.bool true) ∧ Below w.heap.size w w' := by
  cases h1 : shortB gs with
  | false => exact poss_few raw n code ties hg hv (.inl h1)
  | true =>
    cases h2 : fewB L with
    | false => exact poss_few raw n code ties hg hv (.inr h2)
    | true =>
      cases raw with
      | true => exact poss_raw n code ties hg hv h1 h2
      | false => exact poss_made n code ties hc1 hc2 hg hv h1 h2

end Go.Proofs.Ytbnhgmikegdppaa

/- A pile and a row of flags that come in are opened. -/
namespace Go.Proofs.Ytbnhgmikegdppaa
open Go.ChangeShapes Go.WideShapes Go.ChangeAt Go.RowKit Go.Proofs.Kit Go.Proofs.Nums

set_option maxRecDepth 100000 in
/-- A slice opened, its elements by a reading of their own. -/
theorem slice_open {H : Type} {enc : TypeId × Value → H} {β : Type} [Inhabited β] {R : World → List Value → β → Prop} {k : Nat} {t e : TypeId} {v : Value} {W : World} {n : Nat} {y : DataW H × List MemPlace} (ht : Try.prog.underlying t = some (.slice e)) (hk : Try.prog.cellsOf e = k)
    (hm : DataW.trod enc Try.prog W 0 (fun _ => true) true n t [v] = some y) (hR : ∀ (cs : List Value) (n : Nat) (y : DataW H × List MemPlace), DataW.trod enc Try.prog W 0 (fun _ => true) true n e cs = some y → cs.length = k → ∃ x, R W cs x) : ∃ l, SliceOf R k W v l := by
  rcases Go.Deep.open_slice ht hm with ⟨hcs, _⟩ | ⟨a, len, cap, m, n', D, Pl, hcs, _, hl, hmx, hmm, _, hx⟩
  · obtain rfl : v = .slice none 0 0 := List.head_eq_of_cons_eq hcs
    exact ⟨[], SliceOf.nil W⟩
  · obtain rfl : v = .slice (some a) len cap := List.head_eq_of_cons_eq hcs
    simp only [if_true] at hmm
    subst hmm
    rw [hk] at hx
    have hx2 : ∀ i, i < m → ∃ z : List Value × β, W.cells? 0 (a.add (i * k)) k = some z.1 ∧ z.1.length = k ∧ R W z.1 z.2 := fun i hi => by
      obtain ⟨cs', h1, h2⟩ := hx i hi
      obtain ⟨_, hlen, _⟩ := World.cells?_some h1
      obtain ⟨x, hx⟩ := hR cs' _ _ h2 hlen
      exact ⟨(cs', x), h1, hlen, hx⟩
    obtain ⟨Z, hZ⟩ := Go.Deep.choose_lt hx2
    refine ⟨(List.range len).map fun i => (Z i).2, (List.range len).map (fun i => (Z i).1), some a, m, by simp, by simpa using hl, by unfold maxLen at hmx; omega, (fun h => by cases h), by simp, (fun c hc => ?_), (fun q hq i c j u hi hj => ?_), (fun i c y hi hy => ?_)⟩
    · obtain ⟨i, hi, rfl⟩ := List.mem_map.1 hc
      exact (hZ i (by have := List.mem_range.1 hi; omega)).2.1
    · obtain rfl := Option.some.inj hq
      rw [List.getElem?_map] at hi
      by_cases hil : i < len
      · rw [List.getElem?_range hil] at hi
        simp only [Option.map_some, Option.some.injEq] at hi
        subst hi
        obtain ⟨h1, h2, h3⟩ := hZ i (by omega)
        have h4 := (World.cells?_some h1).2.2 j (by rw [← h2]; exact (List.getElem?_eq_some_iff.1 hj).1)
        rw [Go.Deep.add_add] at h4
        rw [h4]
        exact hj
      · rw [List.getElem?_eq_none (by simp; omega)] at hi
        simp at hi
    · rw [List.getElem?_map] at hi hy
      by_cases hil : i < len
      · rw [List.getElem?_range hil] at hi hy
        simp only [Option.map_some, Option.some.injEq] at hi hy
        subst hi
        subst hy
        exact (hZ i (by omega)).2.2
      · rw [List.getElem?_eq_none (by simp; omega)] at hi
        simp at hi

section
variable {H : Type} {enc : TypeId × Value → H} {W : World}
theorem int_cell {v : Value} {n : Nat} {y : DataW H × List MemPlace} (h : DataW.trod enc Try.prog W 0 (fun _ => true) true n 3 [v] = some y) : ∃ l : Int, v = .int .i64 l := by
  obtain ⟨a, ha, _⟩ := DataW.trod_int Try.underlying3 h
  exact ⟨a, List.head_eq_of_cons_eq ha⟩
theorem len2 {l : List Value} (h : l.length = 2) : ∃ a b, l = [a, b] := by
  match l, h with
  | [a, b], _ => exact ⟨a, b, rfl⟩
set_option maxRecDepth 100000 in
theorem grp_open {cs : List Value} {n : Nat} {y : DataW H × List MemPlace} (h : DataW.trod enc Try.prog W 0 (fun _ => true) true n 85 cs = some y) (hl : cs.length = 2) : ∃ g : Grp, groupR W cs g := by
  obtain ⟨a, b, rfl⟩ := len2 hl
  obtain ⟨y0, y1, m, _, _, h0, h1⟩ := trod_struct2 Try.underlying85 h
  have h0 : DataW.trod enc Try.prog W 0 (fun _ => true) true m 28 [a] = some y0 := h0
  have h1 : DataW.trod enc Try.prog W 0 (fun _ => true) true m 3 [b] = some y1 := h1
  obtain ⟨l, hi⟩ := ints_cell h0
  obtain ⟨z, rfl⟩ := int_cell h1
  exact ⟨⟨l, z⟩, a, rfl, hi⟩
instance : Inhabited Grp := ⟨g0⟩
set_option maxRecDepth 100000 in
/-- An argument of type []api.Group. -/
theorem pile_open {v : Value} {d : DataW H} {p : List MemPlace} {base : Nat} (hv : Value.okWide Try.prog W .any base 22 v)
    (h : DataW.Trod enc Try.prog W 0 (fun _ => true) true 22 v d p) : ∃ gs, PileAt W v gs := by
  obtain ⟨a, len, cap, rfl⟩ := okWide_slice Try.underlying22 hv
  obtain ⟨m, hm⟩ := h
  exact slice_open (R := groupR) (k := 2) Try.underlying22 (by kernel_rfl) hm (fun cs n y hc hl => grp_open hc hl)
set_option maxRecDepth 100000 in
/-- An argument of type []bool. -/
theorem bools_open {v : Value} {d : DataW H} {p : List MemPlace} {base : Nat} (hv : Value.okWide Try.prog W .any base 46 v)
    (h : DataW.Trod enc Try.prog W 0 (fun _ => true) true 46 v d p) : ∃ l, BoolsAt W v l := by
  obtain ⟨a, len, cap, rfl⟩ := okWide_slice Try.underlying46 hv
  obtain ⟨m, hm⟩ := h
  obtain ⟨l, css, p, cap, e, h1, h2, h3, h4, h5, h6, h7⟩ := slice_open (R := fun _ c (x : Bool) => c = [.bool x]) (k := 1) Try.underlying46 (by kernel_rfl) hm (fun cs n y hc hl => by
    match cs, hl with
    | [v], _ =>
      obtain ⟨b, hb, _⟩ := DataW.trod_bool Try.underlying4 hc
      exact ⟨b, hb⟩)
  refine ⟨l, p, cap, by rw [e, List.length_map], by rw [List.length_map]; exact h1, h2, h3, fun q hq i u hi => ?_⟩
  rw [List.getElem?_map] at hi
  obtain ⟨x, hx, rfl⟩ := Option.map_eq_some_iff.1 hi
  have hil := (List.getElem?_eq_some_iff.1 hx).1
  have hc := List.getElem?_eq_getElem (l := css) (i := i) (by omega)
  have e := h7 i _ x hc hx
  have := h6 q hq i _ 0 (.bool x) hc (by rw [e]; rfl)
  rw [Nat.mul_one, Nat.add_zero] at this
  exact this
end

end Go.Proofs.Ytbnhgmikegdppaa

namespace Go.Proofs.Ytbnhgmikegdppaa.irvPossible
open Go.ChangeShapes Go.WideShapes Go.ChangeAt Go.RowKit
open Go.ChangeMaps (open_string shut_string)

theorem own : ownKnob Try.prog.godebug = none := by kernel_rfl
theorem laidOut : laidOutB Try.prog = true := by kernel_rfl

set_option maxRecDepth 100000 in
theorem lifted (os : Os) (started : os.Started) (H : Type) (enc : TypeId × Value → H) :
    ReturnsInHanded {} Try.checked os 3 .any (Rows.irvPossibleSpec.pre6 enc Try.prog Try.f3 Rows.irvPossibleRow.domain false) (Rows.irvPossibleSpec.post enc Try.prog Try.f3 false true false false) := by
  refine returnsInHanded_of_change (C := Try.checked) own started (by kernel_rfl) Try.func3
    (ChangeSpec.witness6 (enc := enc) (C := Try.checked) false ⟨#[], #[.slice none 0 0, .bool false, .int .i64 0, .int .i64 0, .int .i64 0, .slice none 0 0], []⟩ 8 (by kernel_rfl) (by kernel_rfl) (by kernel_rfl) (by kernel_rfl)) ?_
  intro W base args ds gs before hval0 hW hcnd _
  have hval := hval0
  have hW' := hW
  obtain ⟨p, q, hA0, hV, rfl, hfz, hnd⟩ := hW
  have hA : DataW.TrodAll enc Try.prog W 0 (fun _ => true) true Try.f3.params.toList args.toList ds p := hA0
  rw [Try.params3] at hA hval
  obtain ⟨v0, vs0, d0, ds0, p0, q0, hargs, rfl, rfl, h0, r0⟩ := trodAll_cons hA
  obtain ⟨v1, vs1, d1, ds1, p1, q1, rfl, rfl, rfl, h1, r1⟩ := trodAll_cons r0
  obtain ⟨v2, vs2, d2, ds2, p2, q2, rfl, rfl, rfl, h2, r2⟩ := trodAll_cons r1
  obtain ⟨v3, vs3, d3, ds3, p3, q3, rfl, rfl, rfl, h3, r3⟩ := trodAll_cons r2
  obtain ⟨v4, vs4, d4, ds4, p4, q4, rfl, rfl, rfl, h4, r4⟩ := trodAll_cons r3
  obtain ⟨v5, vs5, d5, ds5, p5, q5, rfl, rfl, rfl, h5, r5⟩ := trodAll_cons r4
  obtain ⟨rfl, rfl, rfl⟩ := trodAll_nil r5
  obtain rfl : args = #[v0, v1, v2, v3, v4, v5] := by cases args; simp_all
  obtain ⟨rfl, rfl⟩ := trodVars_none hV
  have lt0 : ∀ x ∈ p0, x.block < W.heap.size := by obtain ⟨m, hm⟩ := h0; exact DataW.trod_lt m _ _ _ hm
  obtain ⟨l0, n0⟩ := pile_open (hval 0 22 v0 rfl rfl) h0
  obtain ⟨a1, rfl, rfl, rfl⟩ := open_bool Try.underlying4 (hval 1 4 v1 rfl rfl) h1
  obtain ⟨a2, rfl, rfl, rfl, w2⟩ := open_int Try.underlying3 (hval 2 3 v2 rfl rfl) h2
  obtain ⟨a3, rfl, rfl, rfl, w3⟩ := open_int Try.underlying3 (hval 3 3 v3 rfl rfl) h3
  have wf3 := w3
  simp [Lit.wf] at wf3
  have lo3 : IntKind.i64.min = -9223372036854775808 := by decide
  have hi3 : IntKind.i64.max = 9223372036854775807 := by decide
  obtain ⟨a4, rfl, rfl, rfl, w4⟩ := open_int Try.underlying3 (hval 4 3 v4 rfl rfl) h4
  have lt5 : ∀ x ∈ p5, x.block < W.heap.size := by obtain ⟨m, hm⟩ := h5; exact DataW.trod_lt m _ _ _ hm
  obtain ⟨l5, n5⟩ := grid_open (hval 5 23 v5 rfl rfl) h5
  clear hA0 hval0
  refine (walk_IrvPossible n0 a1 a2 a3 (by omega) (by omega) a4 n5).mono fun e W' ⟨he, bel⟩ => ?_
  subst he
  exact ⟨_, rfl, _, _, _, [], _, [], hW', trodAll_mk1 (shut_bool Try.underlying4 _), (trodAll_cons_mk (Below.trod laidOut (by kernel_rfl) (of_decide_eq_true (by kernel_rfl)) h0 bel lt0) (trodAll_cons_mk (shut_bool Try.underlying4 _) (trodAll_cons_mk (shut_int Try.underlying3 w2) (trodAll_cons_mk (shut_int Try.underlying3 w3) (trodAll_cons_mk (shut_int Try.underlying3 w4) (trodAll_cons_mk (Below.trod laidOut (by kernel_rfl) (of_decide_eq_true (by kernel_rfl)) h5 bel lt5) trodAll_mk0)))))), rfl, bel.frame _, fun h => by cases h⟩

theorem over : Rows.irvPossibleRow.holds Try.pinned (OpenSpec.ofChange Rows.irvPossibleSpec) :=
  OpenClaim.holds_of_wide 3 Try.f3 rfl rfl rfl rfl rfl rfl rfl ⟨rfl, rfl, rfl, rfl, rfl⟩ rfl rfl rfl rfl rfl (by kernel_rfl) Try.func3 (by kernel_rfl)
    (of_decide_eq_true (by kernel_rfl)) (by unfold Func.isWrapper; first | (rw [if_pos (by decide +kernel)]; kernel_rfl) | (rw [if_neg (by decide +kernel)]; exact ⟨rfl, rfl⟩))
    (fun os started H enc _ => lifted os started H enc)

end Go.Proofs.Ytbnhgmikegdppaa.irvPossible
namespace Go.Proofs.Ytbnhgmikegdppaa
/-- IrvPossible: the given statement. -/
theorem irvPossible_proved : Rows.IrvPossibleSaid := irvPossible.over
#print axioms irvPossible_proved
end Go.Proofs.Ytbnhgmikegdppaa
