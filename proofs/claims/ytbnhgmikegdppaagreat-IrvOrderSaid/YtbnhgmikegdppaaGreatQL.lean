/- Contracts and plain facts, part 12: Ii, Ij, Ik, Ve, Il, Iq. No condition beyond those that each theorem states. -/
import Derived.Test.YtbnhgmikegdppaaGreatQK
import Derived.BigQuiet
import Derived.Deep.RegionHeld3
import Derived.Deep.RegionLaw
/- (*count).exclude. -/
namespace Go.Proofs.YtbnhgmikegdppaaGreat
open Go.RowKit Go.Proofs.Kit Go.Proofs.Nums

theorem getD_head {l : List Int} {x : Int} (h : l.headD 0 = x) : l.getD 0 0 = x := by
  cases l <;> simpa using h
/-- What exclude leaves: wc the world behind the choice, wa the one with the votes, w6 the one with the longer list. -/
theorem excl_done {w wc wa w6 : World} {B g E base xn : Nat} {o : Nat → Prop} {C : ConP} {vg vl ve v6 vt : Value} {rem : List Bool} {L L' : List (List Q)} {t : List Int} {css css' : List (List Value)}
    (hbC : Below w.heap.size w wc) (hK : CntAt wc B g C vg vl ve rem) (hE : Lst2 rowR E o 47 1 ve w L css) (hB0 : base ≤ B) (hg0 : base ≤ g) (hBE : B < E) (hgE : g < E) (hEw : E ≤ w.heap.size)
    (hWa : Below wc.heap.size (wc.setCell ⟨g, xn, none⟩ (.bool false)) wa) (hw6 : Below E wa w6) (hg6 : wa.grownBy w6 ve.ownBlock) (hG : Grew wa ve.ownBlock v6.ownBlock) (hL6 : Lst2 rowR E o 47 1 v6 w6 L' css')
    (hT : Made w.heap.size (fun w => IntsAt w vt t) wc) :
    On (fun b => w.heap.size ≤ b ∧ b < (w6.setCell ⟨B, 12, none⟩ v6).heap.size ∧ v6.ownBlock ≠ some b) (fun w => IntsAt w vt t) (w6.setCell ⟨B, 12, none⟩ v6) ∧ CntAt (w6.setCell ⟨B, 12, none⟩ v6) B g C vg vl v6 (rem.set xn false) ∧
      Lst2 rowR E o 47 1 v6 (w6.setCell ⟨B, 12, none⟩ v6) L' css' ∧ Grew w ve.ownBlock v6.ownBlock ∧
      (w.heap.size ≤ (w6.setCell ⟨B, 12, none⟩ v6).heap.size ∧ ∀ b, b < w.heap.size → b ≠ B → b ≠ g → ve.ownBlock ≠ some b → (w6.setCell ⟨B, 12, none⟩ v6).heap[b]? = w.heap[b]?) ∧ Below base w (w6.setCell ⟨B, 12, none⟩ v6) := by
  have s1 := hbC.size
  have s2 := hWa.size
  have s3 := hg6.size
  rw [World.size_setCell] at s2
  have hEc : E ≤ wc.heap.size := Nat.le_trans hEw s1
  have fr : ∀ b, b < wc.heap.size → b ≠ B → b ≠ g → ve.ownBlock ≠ some b → (w6.setCell ⟨B, 12, none⟩ v6).heap[b]? = wc.heap[b]? := fun b hb hB hg hv => by
    rw [Below.heap_setCell _ _ _ _ (by exact hB), hg6.block b (by omega) (fun e => hv e.symm), hWa.block b hb, Below.heap_setCell _ _ _ _ (by exact hg)]
  refine ⟨?_, ?_, hL6.put hBE v6, hG.mono (by omega), ⟨by rw [World.size_setCell]; omega, fun b hb hB hg hv => (fr b (by omega) hB hg hv).trans (hbC.block b hb)⟩, ?_⟩
  · refine On.mono (On.step hT fun b hb => fr b hb.2 (by omega) (by omega) (fun e => by have := (hE.lt b e).2; omega)) fun b hb => ⟨hb.1, by rw [World.size_setCell]; omega, hG.not (by omega) (fun e => by have := (hE.lt b e).2; omega)⟩
  · have k1 := hK.flag xn false
    have k2 : CntAt w6 B g C vg vl ve (rem.set xn false) := k1.off (by rw [World.size_setCell]; omega) (by rw [hw6.block B hBE, hWa.block B (by omega)]) (by rw [hw6.block g hgE, hWa.block g (by omega)])
    exact k2.ear v6
  · exact ((((hbC.mono (by omega)).setCell (p := ⟨g, xn, none⟩) hg0 _).trans (hWa.mono (by omega))).trans (hw6.mono (by omega))).setCell (p := ⟨B, 12, none⟩) hB0 _

theorem excl_arm {w wc w5 : World} {B g E xn : Nat} {o : Nat → Prop} {C : ConP} {vg vl ve v5 : Value} {rem : List Bool} {L : List (List Q)} {q : List Q} {css cs5 : List (List Value)}
    (hbC : Below w.heap.size w wc) (hK : CntAt wc B g C vg vl ve rem) (hE : Lst2 rowR E o 47 1 ve w L css) (hBE : B < E) (hgE : g < E) (hEw : E ≤ w.heap.size) (ho : ∀ b, o b → b < w.heap.size)
    (hb5 : Below (wc.setCell ⟨g, xn, none⟩ (.bool false)).drew.heap.size (wc.setCell ⟨g, xn, none⟩ (.bool false)).drew w5) (hR5 : RLst (wc.setCell ⟨g, xn, none⟩ (.bool false)).drew.heap.size v5 w5 q cs5) :
    Below wc.heap.size (wc.setCell ⟨g, xn, none⟩ (.bool false)) w5 ∧ Hid (∀ ob : Obj, Lst2 rowR E o 47 1 ve (w5.alloc ob) L css) ∧
    Hid (∀ ob : Obj, On (fun b => E ≤ b ∧ b < (w5.alloc ob).heap.size ∧ ve.ownBlock ≠ some b ∧ ¬ o b) (fun w => rowR w [v5] q) (w5.alloc ob)) ∧
    Hid (∀ ob : Obj, E ≤ (w5.alloc ob).heap.size) ∧ Hid (∀ (ob : Obj) (b : Nat), o b → b < (w5.alloc ob).heap.size) ∧
    Hid (∀ (ob : Obj) (w6 : World), Below E (w5.alloc ob) w6 → w6.cell? ⟨B, 12, none⟩ = some ve) ∧ Hid (∀ (ob : Obj) (w6 : World), Below E (w5.alloc ob) w6 → w6.frozen? ⟨B, 12, none⟩ = false) ∧
    Hid (∀ u ∈ [v5], u.oneCell' = true) := by
  have hs1 := hbC.size
  have hsW : (wc.setCell ⟨g, xn, none⟩ (.bool false)).drew.heap.size = wc.heap.size := by
    show (wc.setCell ⟨g, xn, none⟩ (.bool false)).heap.size = wc.heap.size
    rw [World.size_setCell]
  have hs5 := hb5.size
  rw [hsW] at hs5 hb5 hR5
  have hd : Below wc.heap.size (wc.setCell ⟨g, xn, none⟩ (.bool false)) w5 := (Below.refl _ (wc.setCell ⟨g, xn, none⟩ (.bool false))).drew.trans hb5
  have hda : ∀ ob : Obj, Below wc.heap.size (wc.setCell ⟨g, xn, none⟩ (.bool false)) (w5.alloc ob) := fun ob => hd.alloc hs5 ob
  have hLW := (hE.keep hbC).put (j := xn) hgE (.bool false)
  have hKW := hK.flag xn false
  have hL5 : ∀ ob : Obj, Lst2 rowR E o 47 1 ve (w5.alloc ob) L css := fun ob => hLW.keep (by rw [World.size_setCell]; exact hda ob)
  have ho' : ∀ b, o b → b < wc.heap.size := fun b e => by have := ho b e; omega
  have hm : Made wc.heap.size (fun w => rowR w [v5] q) w5 := (hR5.made (Nat.le_refl _) (Nat.le_refl _)).imp fun w' g => ⟨_, rfl, g⟩
  refine ⟨hd, Lib.hid hL5, Lib.hid fun ob => ?_, Lib.hid fun ob => by simp; omega, Lib.hid fun ob b e => by have := ho' b e; simp; omega, Lib.hid fun ob w6 h6 => ?_, Lib.hid fun ob w6 h6 => ?_, Lib.hid fun u hu => ?_⟩
  · refine Lst2.fresh (w1 := w5.alloc ob) hLW ?_ (by rw [World.size_setCell]; omega) (fun b e => by rw [World.size_setCell]; exact ho' b e)
    rw [World.size_setCell]
    exact hm.keep ((Below.refl _ _).alloc (Nat.le_refl _) _)
  · have k := (hKW.keep (w' := w5.alloc ob) (by rw [World.size_setCell]; exact hda ob)).off h6.size (h6.block B hBE) (h6.block g hgE)
    exact k.cells.2.2.2.1
  · have k := (hKW.keep (w' := w5.alloc ob) (by rw [World.size_setCell]; exact hda ob)).off h6.size (h6.block B hBE) (h6.block g hgE)
    exact k.cells.2.2.2.2
  · rw [List.mem_singleton.1 hu]
    obtain ⟨p, c, e, _⟩ := SliceOf.shape hR5.slice
    rw [e]; rfl

set_option maxRecDepth 100000 in
set_option maxHeartbeats 16000000 in
theorem exclude_c {w : World} {B g E base : Nat} {o : Nat → Prop} {C : ConP} {vg vl ve vv : Value} {gs : List Grp} {rem : List Bool} {ear : List (List Int)} {lots : List Int} {css : List (List Value)}
    (hC : CntAt w B g C vg vl ve rem) (hE : Lst2 rowR E o 47 1 ve w (ear.map wholesS) css) (hB0 : base ≤ B) (hg0 : base ≤ g) (hBE : B < E) (hgE : g < E) (hEw : E ≤ w.heap.size) (ho : ∀ b, o b → b < w.heap.size)
    (hl : IntsAt w vl lots) (hv : IntsAt w vv (votesS gs rem)) (hvf : ∀ b, vv.ownBlock = some b → b ≠ g) (hvr : ∀ x ∈ votesS gs rem, 0 ≤ x ∧ x ≤ 1000000)
    (h7 : C.n ≤ 7) (hear : ear.length ≤ 7) (hall : aliveS rem ≠ []) (hb : Brk C.n (brkS C.ties lots)) :
    Calls Tryz.prog 29 #[.pointer (some ⟨B, 0, none⟩), vv] w fun e w' => ∃ vt ve' css', e = .returned (.tuple #[.int .i64 (exclS (brkS C.ties lots) gs rem ear), vt]) ∧
      On (fun b => w.heap.size ≤ b ∧ b < w'.heap.size ∧ ve'.ownBlock ≠ some b) (fun w => IntsAt w vt (tiedW gs rem)) w' ∧ CntAt w' B g C vg vl ve' (rem.set (exclS (brkS C.ties lots) gs rem ear).toNat false) ∧
      Lst2 rowR E o 47 1 ve' w' (ear.map wholesS ++ [wholesS (votesS gs rem)]) css' ∧ Grew w ve.ownBlock ve'.ownBlock ∧
      (w.heap.size ≤ w'.heap.size ∧ ∀ b, b < w.heap.size → b ≠ B → b ≠ g → ve.ownBlock ≠ some b → w'.heap[b]? = w.heap[b]?) ∧ Below base w w' := by
  have hrl := hC.len
  have hxl := excl_low (gs := gs) (ear := ear) (by rw [hrl]; exact hb) hall
  have hxr := remB_lt (mem_alive.1 (low_sub hxl))
  rw [hrl] at hxr
  have LF := Lib.hid (left_n hC h7)
  have HC := Lib.hid hC
  have HE := Lib.hid hE
  have HV := Lib.hid hv
  have HL := Lib.hid hl
  have HVF := Lib.hid hvf
  have HVR := Lib.hid hvr
  have HO := Lib.hid ho
  have HN1 : Hid (((ear.map wholesS).length + 1) * 24 ≤ 140737488355328) := Lib.hid (by rw [List.length_map]; omega)
  have HN2 : Hid ((ear.map wholesS).length + 1 ≤ 9223372036854775807) := Lib.hid (by rw [List.length_map]; omega)
  have hsw : 0 < w.heap.size := by omega
  have hlow : lowS gs rem = extA (ltW gs rem) (aliveS rem) := rfl
  have HLN := Lib.hid (low_ne (gs := gs) hall)
  have hvl : (votesS gs rem).length = C.n := by rw [votes_len, hrl]
  have HVL := Lib.hid hvl
  have HRL := Lib.hid hrl
  have HAR : Hid (∀ x ∈ aliveS rem, 0 ≤ x ∧ x < (C.n : Int)) := Lib.hid (fun x hx => by rw [← hrl]; exact remB_lt (mem_alive.1 hx))
  have HVG : Hid (∀ c : Nat, c < C.n → (votesS gs rem).getD c 0 = wt (remB rem) gs c) := Lib.hid (fun c hc => votes_get (c := (c : Int)) (by omega) (by rw [hrl]; omega))
  have hal := alive_le rem
  rw [hrl] at hal
  obtain ⟨pv, cv, rfl⟩ := hv.shape
  have HXS : Hid (exclS (brkS C.ties lots) gs rem ear = if 1 < (lowS gs rem).length then (breakS C.ties (ear.map wholesS) (lowS gs rem) lots true).1 else (lowS gs rem).headD 0) := Lib.hid rfl
  have HTW : Hid (tiedW gs rem = if 1 < (lowS gs rem).length then lowS gs rem else []) := Lib.hid rfl
  have TB := Lib.hid (fun ve vt vl tied w => @tbreak_c ve vt vl (ear.map wholesS) tied lots w)
  obtain ⟨x, hx⟩ : ∃ x, exclS (brkS C.ties lots) gs rem ear = x := ⟨_, rfl⟩
  rw [hx] at hxl hxr HXS
  rw [hx]
  obtain ⟨xn, hxn⟩ : ∃ j : Nat, x = j := ⟨x.toNat, by omega⟩
  subst hxn
  rw [Int.toNat_natCast]
  rw [hvl] at HV
  have HC2 : Hid (∀ wq, Below w.heap.size w wq → CntAt wq B g C vg vl ve rem) := Lib.hid (fun wq h => hC.keep h)
  obtain ⟨n, hn⟩ : ∃ n, C.n = n := ⟨_, rfl⟩
  have HNn := Lib.hid hn
  have HV := Lib.hid (show IntsAt w (.slice pv n cv) (votesS gs rem) by have := HV.out; rw [hn] at this; exact this)
  rw [hn] at HAR HVG hxr h7 hal
  rw [hvl, hn]
  rw [hvl, hn] at HVF
  have HVL : Hid ((votesS gs rem).length = n) := Lib.hid (by rw [← hn]; exact hvl)
  have cells : ∀ wq, Below w.heap.size w wq → wq.cell? ⟨B, 6, none⟩ = some (.int .i64 C.ties) ∧ wq.cell? ⟨B, 10, none⟩ = some vl ∧ wq.cell? ⟨B, 11, none⟩ = some (.slice (some ⟨g, 0, none⟩) n n) ∧ wq.cell? ⟨B, 12, none⟩ = some ve ∧ wq.frozen? ⟨B, 12, none⟩ = false := fun wq h => by rw [← hn]; exact (hC.keep h).cells
  have CE := Lib.hid cells
  obtain ⟨ties, htie⟩ : ∃ t, C.ties = t := ⟨_, rfl⟩
  rw [htie] at CE HXS
  have hBw := hC.lt
  clear hC hE hl hv hvf hvr hb ho hvl hrl cells hx hn htie hear
  go_enter Tryz.func29, Tryz.ntmps29
  go_wp2_with (go_at_call 26; ((with_reducible refine LF.out.mono ?_); rintro e w1 ⟨v1, rfl, hi1, hf1, hb1⟩; obtain ⟨p1, k1, rfl⟩ := hi1.shape))
  obtain ⟨len, hlen⟩ : ∃ n, (aliveS rem).length = n := ⟨_, rfl⟩
  have HN := Lib.hid hlen
  have HI1 := Lib.hid hi1
  rw [hlen] at HI1 hal ⊢
  clear hi1 hlen
  go_loopw [5, 11] (fun ov iv wr => ∃ k m : Nat, ∃ q : List Int, k ≤ len ∧ m ≤ k ∧ iv = .int .i64 k ∧ wr.ownsRow w1.heap.size 3 1 ov m (q.map (Value.int .i64)) ∧ Below w1.heap.size w1 wr ∧ Hid (q = extA (ltW gs rem) ((aliveS rem).take k))) (fun _ iv _ => len - (intOf iv).toNat)
  case atStart => exact ⟨0, 0, [], by omega, by omega, rfl, World.ownsRow_nil _ _ _ _, Below.refl _ _, Lib.hid rfl⟩
  case round =>
    obtain ⟨k, m, q, hk, hm, rfl, hown, hbel, hP⟩ := hrel
    have hbw := bel2' hb1 hbel
    have hol : q.length = m := by
      have h1 := hown.1
      rw [List.length_map] at h1
      omega
    have HI := Lib.hid (ints_owned hown)
    obtain ⟨p5, c5, rfl, hmc, hcm⟩ := own_shape hown
    by_cases hlt : k < len
    · have hltz : (k : Int) < (len : Int) := by omega
      obtain ⟨bb, off, hp0, hc1, hc2, hcell⟩ := (HI1.out.keep hbel).cellAt k (by rw [HN.out]; exact hlt)
      subst hp0
      have hmem := HAR.out ((aliveS rem).getD k 0) (mem_getD (by rw [HN.out]; exact hlt) rfl)
      obtain ⟨y, hy⟩ : ∃ y, (aliveS rem).getD k 0 = y := ⟨_, rfl⟩
      rw [hy] at hcell hmem
      obtain ⟨cn, hcn⟩ : ∃ j : Nat, y = j := ⟨y.toNat, by omega⟩
      subst hcn
      have hcl : cn < n := by omega
      have hclz : (cn : Int) < (n : Int) := by omega
      have HS : Hid (extA (ltW gs rem) ((aliveS rem).take (k + 1)) = exStep (ltW gs rem) q cn) := Lib.hid (by rw [low_step (by rw [HN.out]; exact hlt) hy, hP.out])
      obtain ⟨bv, fv, hpv, _, _, hcv⟩ := (HV.out.keep hbw).cellAt cn (by rw [HVL.out]; exact hcl)
      subst hpv
      rw [HVG.out cn hcl] at hcv
      obtain ⟨xc, hxc⟩ : ∃ x, wt (remB rem) gs cn = x := ⟨_, rfl⟩
      rw [hxc] at hcv
      have own1 : ∀ wq : World, w1.heap.size ≤ wq.heap.size → (wq.alloc (.cells #[.int .i64 (cn : Int)] 3)).ownsRow w1.heap.size 3 1 (.slice (some ⟨wq.heap.size, 0, none⟩) 1 1) 1 ([(cn : Int)].map (Value.int .i64)) := fun wq h =>
        World.ownsRow_lit wq #[.int .i64 (cn : Int)] 1 h (by decide) rfl
      clear hy hmem
      cases q with
      | nil =>
        obtain rfl : m = 0 := by rw [← hol]; rfl
        have HX : Hid ([(cn : Int)] = extA (ltW gs rem) ((aliveS rem).take (k + 1))) := Lib.hid (by rw [HS.out]; rfl)
        go_wp2_with fail
        go_quiet (fail)
        all_goals
          go_wp2_with fail
          go_roundw
          case rel => exact ⟨k + 1, 1, [(cn : Int)], by omega, by omega, by go_num, own1 _ hbel.size, (below_drewN hbel _).alloc hbel.size _, HX⟩
          case measure => simp [intOf] <;> omega
      | cons b t =>
        have hm0 : 0 < m := by rw [← hol]; simp
        have hm0z : (0 : Int) < (m : Int) := by omega
        have hme : ((m : Int) == 0) = false := by rw [beq_eq_false_iff_ne]; omega
        have hbm : b ∈ aliveS rem := by
          have : b ∈ extA (ltW gs rem) ((aliveS rem).take k) := by rw [← hP.out]; simp
          exact List.mem_of_mem_take (mem_extA.1 this).1
        have hbr := HAR.out b hbm
        obtain ⟨bn, hbn⟩ : ∃ j : Nat, b = j := ⟨b.toNat, by omega⟩
        subst hbn
        have hbl : bn < n := by omega
        have hblz : (bn : Int) < (n : Int) := by omega
        rw [← hol] at HI
        obtain ⟨gb, goff, hp1, _, _, hcell0⟩ := HI.out.cellAt 0 (by simp)
        subst hp1
        rw [hol] at HI
        have hcell0 : wr.cell? ⟨gb, goff, none⟩ = some (.int .i64 bn) := hcell0
        obtain ⟨bv2, fv2, hpv2, _, _, hcb⟩ := (HV.out.keep hbw).cellAt bn (by rw [HVL.out]; exact hbl)
        simp only [Option.some.injEq, Addr.mk.injEq, and_true] at hpv2
        obtain ⟨rfl, rfl⟩ := hpv2
        rw [HVG.out bn hbl] at hcb
        obtain ⟨xb, hxb⟩ : ∃ x, wt (remB rem) gs bn = x := ⟨_, rfl⟩
        rw [hxb] at hcb
        have L1 : ltW gs rem cn bn = decide (xc < xb) := by unfold ltW; rw [hxc, hxb]
        have L2 : ltW gs rem bn cn = decide (xb < xc) := by unfold ltW; rw [hxc, hxb]
        clear hbm hbr hxb hxc
        rcases Int.lt_trichotomy xc xb with h | h | h
        · have HX : Hid ([(cn : Int)] = extA (ltW gs rem) ((aliveS rem).take (k + 1))) := Lib.hid (by rw [HS.out]; simp only [exStep]; rw [L1, if_pos (decide_eq_true h)])
          have e1 : decide (xc < xb) = true := decide_eq_true h
          clear L1 L2
          go_wp2_with fail
          go_quiet (fail)
          all_goals
            go_wp2_with fail
            go_roundw
            case rel => exact ⟨k + 1, 1, [(cn : Int)], by omega, by omega, by go_num, own1 _ hbel.size, (below_drewN hbel _).alloc hbel.size _, HX⟩
            case measure => simp [intOf] <;> omega
        · have HX : Hid ((bn : Int) :: t ++ [(cn : Int)] = extA (ltW gs rem) ((aliveS rem).take (k + 1))) := Lib.hid (by rw [HS.out]; simp only [exStep]; rw [L1, L2, if_neg (by rw [decide_eq_true_iff]; omega), if_neg (by rw [decide_eq_true_iff]; omega)])
          have e1 : decide (xc < xb) = false := decide_eq_false (by omega)
          have e2 : (xc == xb) = true := by rw [h]; simp
          clear L1 L2 h
          go_wp2_with fail
          go_quiet (fail)
          all_goals
            go_wp2_with fail
            go_quiet (fail)
            all_goals
              have HOW := Lib.hid (fun q => ownsRow_below hown (below_drewN (Below.refl wr.heap.size wr) q))
              have HBD := Lib.hid (fun q => below_drewN hbel q)
              go_wp2_with (at_builtin; go_must (refine append_one erI rfl rfl (HOW.out _) rfl rfl rfl (by simp [Value.oneCell']) (by omega) (by omega) (HBD.out _).size ?_); intro v' w4 hown1 _ hb1' hne1)
              go_roundw
              case rel =>
                refine ⟨k + 1, m + 1, (bn : Int) :: t ++ [(cn : Int)], by omega, by omega, by go_num, ?_, (HBD.out _).trans hb1', HX⟩
                rw [List.map_append]
                exact hown1
              case measure => simp [intOf] <;> omega
        · have HX : Hid ((bn : Int) :: t = extA (ltW gs rem) ((aliveS rem).take (k + 1))) := Lib.hid (by rw [HS.out]; simp only [exStep]; rw [L1, L2, if_neg (by rw [decide_eq_true_iff]; omega), if_pos (decide_eq_true h)])
          have e1 : decide (xc < xb) = false := decide_eq_false (by omega)
          have e2 : (xc == xb) = false := by rw [beq_eq_false_iff_ne]; omega
          clear L1 L2 h
          go_wp2_with fail
          go_quiet (fail)
          all_goals
            go_wp2_with fail
            go_quiet (fail)
            all_goals
              have HOW := Lib.hid (fun q => ownsRow_below hown (below_drewN (Below.refl wr.heap.size wr) q))
              have HBD := Lib.hid (fun q => below_drewN hbel q)
              go_wp2_with fail
              go_roundw
              case rel => exact ⟨k + 1, m, _, by omega, by omega, by go_num, HOW.out _, HBD.out _, HX⟩
              case measure => simp [intOf] <;> omega
    · have hltz : ¬ (k : Int) < (len : Int) := by omega
      have HQ : Hid (lowS gs rem = q) := Lib.hid (by rw [hP.out, List.take_of_length_le (by rw [HN.out]; omega)]; rfl)
      have hq0 : q ≠ [] := by rw [← HQ.out]; exact HLN.out
      have hm0 : 0 < m := by rw [← hol]; exact List.length_pos_iff.2 hq0
      have hm0z : (0 : Int) < (m : Int) := by omega
      obtain ⟨gb, goff, hp1, _, _, hcell0⟩ := HI.out.cellAt 0 (by rw [hol]; exact hm0)
      have HI := Lib.hid (show IntsAt wr (.slice p5 m c5) q from HI.out)
      subst hp1
      have hcell0 : wr.cell? ⟨gb, goff, none⟩ = some (.int .i64 (q.getD 0 0)) := hcell0
      obtain ⟨y0, hy0⟩ : ∃ y, q.getD 0 0 = y := ⟨_, rfl⟩
      rw [hy0] at hcell0
      have HF := Lib.hid (Fresh.owned hown)
      have hqlow : ∀ z ∈ q, (0 : Int) ≤ z ∧ z < (n : Int) := fun z hz => by
        rw [← HQ.out] at hz; exact HAR.out z (low_sub hz)
      obtain ⟨d6, d10, d11, d12, df12⟩ := CE.out wr hbw
      clear hown hlow
      by_cases hm1 : 1 < m
      · have hm1z : (1 : Int) < (m : Int) := by omega
        have HX : Hid ((breakS ties (ear.map wholesS) q lots true).1 = (xn : Int)) := Lib.hid (by
          have := HXS.out
          rw [HQ.out, if_pos (by rw [hol]; exact hm1)] at this
          exact this.symm)
        have HTQ : Hid (tiedW gs rem = q) := Lib.hid (by rw [HTW.out, HQ.out, if_pos (by rw [hol]; exact hm1)])
        obtain ⟨z1, hz1⟩ : ∃ z, (breakS ties (ear.map wholesS) q lots true).2 = z := ⟨_, rfl⟩
        have BK : Hid (∀ wq, Below wr.heap.size wr wq → Calls Tryz.prog 53 #[.int .i64 ties, ve, .slice (some ⟨gb, goff, none⟩) m c5, vl, .bool true] wq fun e w' => e = .returned (.tuple #[.int .i64 (xn : Int), .bool z1]) ∧ Below wq.heap.size wq w') := Lib.hid (fun wq h => by
          have := TB.out ve _ vl q wq (show RoundsAt wq ve _ from (HE.out.keep (bel2' hbw h)).slice) (HI.out.keep h) (HL.out.keep (bel2' hbw h)) ties true
          rw [HX.out, hz1] at this
          exact this)
        have S0 : Hid (wr.drew.cell? ⟨B, 6, none⟩ = some (.int .i64 ties) ∧ wr.drew.cell? ⟨B, 12, none⟩ = some ve ∧ wr.drew.cell? ⟨B, 10, none⟩ = some vl) := Lib.hid ⟨d6, d12, d10⟩
        have hdw : Below wr.heap.size wr wr.drew := (Below.refl _ _).drew
        clear hz1 d6 d10 d12
        go_wp2_with fail
        go_region_held3 (fun w' => w'.cell? ⟨B, 6, none⟩ = some (.int .i64 ties) ∧ w'.cell? ⟨B, 12, none⟩ = some ve ∧ w'.cell? ⟨B, 10, none⟩ = some vl)
          (first | exact S1.out | exact S0.out)
          (first | (go_at_call 53; ((with_reducible refine (BK.out _ hdw).mono ?_); rintro e wb ⟨rfl, hbb⟩; have hbT := bel2' hdw hbb; have S1 := Lib.hid (And.intro (cell_keep hbb S0.out.1) (And.intro (cell_keep hbb S0.out.2.1) (cell_keep hbb S0.out.2.2))))))
        all_goals
          have hbC := bel2' hbw hbT
          have HVT : Hid (Made w.heap.size (fun w => IntsAt w (.slice (some ⟨gb, goff, none⟩) m c5) (tiedW gs rem)) wb) := Lib.hid (by rw [HTQ.out]; exact RowAt.made (HI.out.keep hbT) (fun b hb => Nat.le_trans hb1.size (HF.out b hb)))
          have hK := HC2.out _ hbC
          obtain ⟨q6, q10, q11, q12, qf12⟩ := CE.out _ hbC
          have hcx := hK.row.cell (j := xn) (by rw [HNn.out]; omega)
          have hfx := hK.row.free xn
          have hxz : (xn : Int) < (n : Int) := by omega
          have HKW := Lib.hid (hK.flag xn false)
          have HLW := Lib.hid ((HE.out.keep hbC).put (j := xn) hgE (.bool false))
          have HVW : Hid (IntsAt (wb.setCell ⟨g, xn, none⟩ (.bool false)) (.slice pv n cv) (votesS gs rem)) := Lib.hid (RowAt.same (HV.out.keep hbC) (fun b hb => Below.heap_setCell _ _ _ _ (by exact HVF.out b hb)))
          have RA : Hid (∀ wq, Below wb.heap.size (wb.setCell ⟨g, xn, none⟩ (.bool false)) wq → Calls Tryz.prog 51 #[.slice pv n cv] wq fun e w' => ∃ v', e = .returned v' ∧ (∃ css, RLst wq.heap.size v' w' (wholesS (votesS gs rem)) css) ∧ Below wq.heap.size wq w') := Lib.hid (fun wq h => ratios_c (HVW.out.keep (by rw [World.size_setCell]; exact h)) HVR.out (by rw [HVL.out]; omega))
          obtain ⟨_, _, _, r12, rf12⟩ := HKW.out.cells
          go_wp2_with fail
          have hbd : Below wb.heap.size (wb.setCell ⟨g, xn, none⟩ (.bool false)) (wb.setCell ⟨g, xn, none⟩ (.bool false)).drew := (Below.refl _ _).drew
          have hsE := hbC.size
          go_region_law (first
            | (refine step_append_lst2 erRR (by rfl) (by rfl) (HL5.out _) (by rfl) (by rfl) (c := [.slice pz nz cz]) (fun j u h => alloc_cell _ _ _ _ j u (by simpa using h)) (by rfl) HONE.out HN1.out HN2.out (HSZ.out _) (HO5.out _) (HEL.out _) ?_; intro v6 w6 hL6 hb6 hg6 hG6; obtain ⟨py, ny, cy, rfl⟩ := own_sl hL6.own; have hL6 := Lib.hid hL6; have hG6 := Lib.hid hG6; have hg6 := Lib.hid hg6; have HB6 := Lib.hid hb6; have k12 := HC6.out _ _ hb6; have f12 := HF6.out _ _ hb6)
            | (go_simp; go_at_call 51; ((with_reducible refine (RA.out _ hbd).mono ?_); rintro e w5 ⟨v5, rfl, ⟨cs5, hR5⟩, hb5⟩; obtain ⟨pz, nz, cz, rfl⟩ := own_sl hR5.own; obtain ⟨hW5, HL5, HEL, HSZ, HO5, HC6, HF6, HONE⟩ := excl_arm hbC hK HE.out hBE hgE hEw HO.out hb5 hR5; have r12b := cell_keep (by rw [World.size_setCell]; exact hW5) r12; have r12c := fun ob => cell_keep (by rw [World.size_setCell]; exact hW5.alloc (by have := hW5.size; rw [World.size_setCell] at this; exact this) ob) r12)))
          all_goals
            go_wp2_with fail
            go_ret2
            have hWa := hW5.alloc (B := wb.heap.size) (by have := hW5.size; rw [World.size_setCell] at this; exact this) (.cells #[.slice pz nz cz] 47)
            have hD := excl_done hbC hK HE.out hB0 hg0 hBE hgE hEw hWa HB6.out hg6.out hG6.out hL6.out HVT.out
            exact ⟨.slice (some ⟨gb, goff, none⟩) m c5, .slice py ny cy, _, rfl, hD⟩
      · have hm1z : ¬ (1 : Int) < (m : Int) := by omega
        have hone : q.length = 1 := by omega
        have HX : Hid (y0 = (xn : Int)) := Lib.hid (by
          have := HXS.out
          rw [HQ.out, if_neg (by rw [hol]; exact hm1)] at this
          rw [← hy0, this, head_getD hone])
        have e := HX.out
        subst e
        have HTQ : Hid (tiedW gs rem = []) := Lib.hid (by rw [HTW.out, HQ.out, if_neg (by rw [hol]; exact hm1)])
        have hbC := hbw
        have HVT : Hid (Made w.heap.size (fun w => IntsAt w (.slice none 0 0) (tiedW gs rem)) wr) := Lib.hid (by rw [HTQ.out]; exact Made.of_true fun w => RowAt.nil w)
        have hK := HC2.out _ hbC
        obtain ⟨q6, q10, q11, q12, qf12⟩ := CE.out _ hbC
        have hcx := hK.row.cell (j := xn) (by rw [HNn.out]; omega)
        have hfx := hK.row.free xn
        have hxz : (xn : Int) < (n : Int) := by omega
        have HKW := Lib.hid (hK.flag xn false)
        have HLW := Lib.hid ((HE.out.keep hbC).put (j := xn) hgE (.bool false))
        have HVW : Hid (IntsAt (wr.setCell ⟨g, xn, none⟩ (.bool false)) (.slice pv n cv) (votesS gs rem)) := Lib.hid (RowAt.same (HV.out.keep hbC) (fun b hb => Below.heap_setCell _ _ _ _ (by exact HVF.out b hb)))
        have RA : Hid (∀ wq, Below wr.heap.size (wr.setCell ⟨g, xn, none⟩ (.bool false)) wq → Calls Tryz.prog 51 #[.slice pv n cv] wq fun e w' => ∃ v', e = .returned v' ∧ (∃ css, RLst wq.heap.size v' w' (wholesS (votesS gs rem)) css) ∧ Below wq.heap.size wq w') := Lib.hid (fun wq h => ratios_c (HVW.out.keep (by rw [World.size_setCell]; exact h)) HVR.out (by rw [HVL.out]; omega))
        obtain ⟨_, _, _, r12, rf12⟩ := HKW.out.cells
        go_wp2_with fail
        have hbd : Below wr.heap.size (wr.setCell ⟨g, xn, none⟩ (.bool false)) (wr.setCell ⟨g, xn, none⟩ (.bool false)).drew := (Below.refl _ _).drew
        have hsE := hbC.size
        go_region_law (first
          | (refine step_append_lst2 erRR (by rfl) (by rfl) (HL5.out _) (by rfl) (by rfl) (c := [.slice pz nz cz]) (fun j u h => alloc_cell _ _ _ _ j u (by simpa using h)) (by rfl) HONE.out HN1.out HN2.out (HSZ.out _) (HO5.out _) (HEL.out _) ?_; intro v6 w6 hL6 hb6 hg6 hG6; obtain ⟨py, ny, cy, rfl⟩ := own_sl hL6.own; have hL6 := Lib.hid hL6; have hG6 := Lib.hid hG6; have hg6 := Lib.hid hg6; have HB6 := Lib.hid hb6; have k12 := HC6.out _ _ hb6; have f12 := HF6.out _ _ hb6)
          | (go_simp; go_at_call 51; ((with_reducible refine (RA.out _ hbd).mono ?_); rintro e w5 ⟨v5, rfl, ⟨cs5, hR5⟩, hb5⟩; obtain ⟨pz, nz, cz, rfl⟩ := own_sl hR5.own; obtain ⟨hW5, HL5, HEL, HSZ, HO5, HC6, HF6, HONE⟩ := excl_arm hbC hK HE.out hBE hgE hEw HO.out hb5 hR5; have r12b := cell_keep (by rw [World.size_setCell]; exact hW5) r12; have r12c := fun ob => cell_keep (by rw [World.size_setCell]; exact hW5.alloc (by have := hW5.size; rw [World.size_setCell] at this; exact this) ob) r12)))
        all_goals
          go_wp2_with fail
          go_ret2
          have hWa := hW5.alloc (B := wr.heap.size) (by have := hW5.size; rw [World.size_setCell] at this; exact this) (.cells #[.slice pz nz cz] 47)
          have hD := excl_done hbC hK HE.out hB0 hg0 hBE hgE hEw hWa HB6.out hg6.out hG6.out hL6.out HVT.out
          exact ⟨.slice none 0 0, .slice py ny cy, _, rfl, hD⟩

end Go.Proofs.YtbnhgmikegdppaaGreat

/- A round in memory; (*count).round. -/
namespace Go.Proofs.Nums

theorem sum_take_step {l : List Int} {k : Nat} {y : Int} (h : k < l.length) (hy : l.getD k 0 = y) : (l.take (k + 1)).sum = (l.take k).sum + y := by
  rw [take_snoc_i h, hy, List.sum_append]
  simp
theorem keep_len (rem : List Bool) : (keepS rem).length = rem.length := List.length_map _
theorem keep_get {rem : List Bool} {k : Nat} (h : k < rem.length) : (keepS rem).getD k 0 = if rem.getD k false = true then 1 else 0 := by
  unfold keepS
  rw [List.getD_eq_getElem?_getD, List.getElem?_map, List.getD_eq_getElem?_getD, List.getElem?_eq_getElem h]
  rfl

end Go.Proofs.Nums
namespace Go.Proofs.YtbnhgmikegdppaaGreat
open Go.RowKit Go.Proofs.Kit Go.Proofs.Nums

/-- The fourteen cells of a round. -/
def rndA (a b q1 q2 e1 e2 s1 s2 l1 l2 l3 : Value) : Array Value := #[a, b, .bool false, q1, q2, .bool false, e1, e2, .bool false, s1, s2, l1, l2, l3]
/-- The numbers of a round. -/
structure RndH (w : World) (a b q1 q2 e1 e2 s1 s2 : Value) (r : Rnd) : Prop where
  votes : RatsAt w a (wholesS r.votes)
  keep : RatsAt w b (wholesS r.keep)
  quota : ratR w [.bool false, q1, q2] (wholeQ r.quota)
  exh : ratR w [.bool false, e1, e2] (wholeQ r.exh)
  sur : ratR w [.bool false, s1, s2] (wholeQ 0)
/-- A round reads. -/
def rndR (w : World) (c : List Value) (r : Rnd) : Prop := ∃ a b q1 q2 e1 e2 s1 s2 l1 l2 l3, c = (rndA a b q1 q2 e1 e2 s1 s2 l1 l2 l3).toList ∧ RndH w a b q1 q2 e1 e2 s1 s2 r ∧ IntsAt w l1 r.el ∧ IntsAt w l2 r.ex ∧ IntsAt w l3 r.ti

/-- A slice. -/
def SlV (v : Value) : Prop := ∃ p n c, v = .slice p n c

theorem blk14 {b : Nat} {w : World} {x0 x1 x2 x3 x4 x5 x6 x7 x8 x9 x10 x11 x12 x13 : Value} (h : Blk b #[x0, x1, x2, x3, x4, x5, x6, x7, x8, x9, x10, x11, x12, x13] w) (y0 y1 y2 y3 y4 y5 y6 y7 y8 y9 y10 y11 y12 y13 : Value) :
    Blk b #[y0, y1, y2, y3, y4, y5, y6, y7, y8, y9, y10, y11, y12, y13] ((((((((((((((w.setCell ⟨b, 0, none⟩ y0).setCell ⟨b, 1, none⟩ y1).setCell ⟨b, 2, none⟩ y2).setCell ⟨b, 3, none⟩ y3).setCell ⟨b, 4, none⟩ y4).setCell ⟨b, 5, none⟩ y5).setCell ⟨b, 6, none⟩ y6).setCell ⟨b, 7, none⟩ y7).setCell ⟨b, 8, none⟩ y8).setCell ⟨b, 9, none⟩ y9).setCell ⟨b, 10, none⟩ y10).setCell ⟨b, 11, none⟩ y11).setCell ⟨b, 12, none⟩ y12).setCell ⟨b, 13, none⟩ y13) := by
  have h0 := blk_put h (o := 0) (by simp) y0
  have h1 := blk_put h0 (o := 1) (by simp) y1
  have h2 := blk_put h1 (o := 2) (by simp) y2
  have h3 := blk_put h2 (o := 3) (by simp) y3
  have h4 := blk_put h3 (o := 4) (by simp) y4
  have h5 := blk_put h4 (o := 5) (by simp) y5
  have h6 := blk_put h5 (o := 6) (by simp) y6
  have h7 := blk_put h6 (o := 7) (by simp) y7
  have h8 := blk_put h7 (o := 8) (by simp) y8
  have h9 := blk_put h8 (o := 9) (by simp) y9
  have h10 := blk_put h9 (o := 10) (by simp) y10
  have h11 := blk_put h10 (o := 11) (by simp) y11
  have h12 := blk_put h11 (o := 12) (by simp) y12
  exact blk_put h12 (o := 13) (by simp) y13
theorem made14 {b : Nat} {w : World} {R : World → Prop} (h : Made (b + 1) R w) (y0 y1 y2 y3 y4 y5 y6 y7 y8 y9 y10 y11 y12 y13 : Value) :
    Made (b + 1) R ((((((((((((((w.setCell ⟨b, 0, none⟩ y0).setCell ⟨b, 1, none⟩ y1).setCell ⟨b, 2, none⟩ y2).setCell ⟨b, 3, none⟩ y3).setCell ⟨b, 4, none⟩ y4).setCell ⟨b, 5, none⟩ y5).setCell ⟨b, 6, none⟩ y6).setCell ⟨b, 7, none⟩ y7).setCell ⟨b, 8, none⟩ y8).setCell ⟨b, 9, none⟩ y9).setCell ⟨b, 10, none⟩ y10).setCell ⟨b, 11, none⟩ y11).setCell ⟨b, 12, none⟩ y12).setCell ⟨b, 13, none⟩ y13) := by
  have one : ∀ {w : World} (j : Nat) (v : Value), Made (b + 1) R w → Made (b + 1) R (w.setCell ⟨b, j, none⟩ v) := fun {w} j v h =>
    On.mono (On.step h fun b' hb => Below.heap_setCell _ _ _ _ (by simp only; omega)) fun b' hb => ⟨hb.1, by rw [World.size_setCell]; exact hb.2⟩
  exact one _ _ (one _ _ (one _ _ (one _ _ (one _ _ (one _ _ (one _ _ (one _ _ (one _ _ (one _ _ (one _ _ (one _ _ (one _ _ (one _ _ h)))))))))))))
theorem below14 {b B : Nat} {w0 w : World} (h : Below B w0 w) (hb : B ≤ b) (y0 y1 y2 y3 y4 y5 y6 y7 y8 y9 y10 y11 y12 y13 : Value) :
    Below B w0 ((((((((((((((w.setCell ⟨b, 0, none⟩ y0).setCell ⟨b, 1, none⟩ y1).setCell ⟨b, 2, none⟩ y2).setCell ⟨b, 3, none⟩ y3).setCell ⟨b, 4, none⟩ y4).setCell ⟨b, 5, none⟩ y5).setCell ⟨b, 6, none⟩ y6).setCell ⟨b, 7, none⟩ y7).setCell ⟨b, 8, none⟩ y8).setCell ⟨b, 9, none⟩ y9).setCell ⟨b, 10, none⟩ y10).setCell ⟨b, 11, none⟩ y11).setCell ⟨b, 12, none⟩ y12).setCell ⟨b, 13, none⟩ y13) := by
  have one : ∀ {w : World} (j : Nat) (v : Value), Below B w0 w → Below B w0 (w.setCell ⟨b, j, none⟩ v) := fun {w} j v h => h.setCell (p := ⟨b, j, none⟩) hb v
  exact one _ _ (one _ _ (one _ _ (one _ _ (one _ _ (one _ _ (one _ _ (one _ _ (one _ _ (one _ _ (one _ _ (one _ _ (one _ _ (one _ _ h)))))))))))))

end Go.Proofs.YtbnhgmikegdppaaGreat

/- (*count).round: the walk. -/
namespace Go.Proofs.YtbnhgmikegdppaaGreat
open Go.RowKit Go.Proofs.Kit Go.Proofs.Nums

theorem cell14 {b B o : Nat} {w : World} {v : Value} (h : w.cell? ⟨B, o, none⟩ = some v) (hne : B ≠ b) : ∀ (y0 y1 y2 y3 y4 y5 y6 y7 y8 y9 y10 y11 y12 y13 : Value), ((((((((((((((w.setCell ⟨b, 0, none⟩ y0).setCell ⟨b, 1, none⟩ y1).setCell ⟨b, 2, none⟩ y2).setCell ⟨b, 3, none⟩ y3).setCell ⟨b, 4, none⟩ y4).setCell ⟨b, 5, none⟩ y5).setCell ⟨b, 6, none⟩ y6).setCell ⟨b, 7, none⟩ y7).setCell ⟨b, 8, none⟩ y8).setCell ⟨b, 9, none⟩ y9).setCell ⟨b, 10, none⟩ y10).setCell ⟨b, 11, none⟩ y11).setCell ⟨b, 12, none⟩ y12).setCell ⟨b, 13, none⟩ y13).cell? ⟨B, o, none⟩ = some v := by
  have one : ∀ {w : World} (j : Nat) (u : Value), w.cell? ⟨B, o, none⟩ = some v → (w.setCell ⟨b, j, none⟩ u).cell? ⟨B, o, none⟩ = some v := fun {w} j u h => (World.cell?_of_block (a := ⟨B, o, none⟩) (Below.heap_setCell _ ⟨b, j, none⟩ _ _ hne)).trans h
  intro y0 y1 y2 y3 y4 y5 y6 y7 y8 y9 y10 y11 y12 y13
  exact one _ _ (one _ _ (one _ _ (one _ _ (one _ _ (one _ _ (one _ _ (one _ _ (one _ _ (one _ _ (one _ _ (one _ _ (one _ _ (one _ _ h)))))))))))))
/-- Of a number that is not negative: what it hands back, made by the call. -/
theorem of_z (x : Int) (h0 : 0 ≤ x) (h1 : x ≤ 1000000) (w : World) :
    Calls Tryz.prog 52 #[.int .i64 x] w fun e w' => ∃ p l k p' l' k', e = .returned (.agg #[.bool false, .slice p l k, .slice p' l' k']) ∧ Made w.heap.size (fun w => ratR w [.bool false, .slice p l k, .slice p' l' k'] (wholeQ x)) w' ∧ Below w.heap.size w w' := by
  obtain ⟨n, rfl⟩ : ∃ n : Nat, x = n := ⟨x.toNat, by omega⟩
  exact of_m n (by omega) w

/-- The append in round: wq the world of the loop, w5 the one behind the call of ratio.Of. -/
theorem rnd_arm {wq w5 : World} {b E : Nat} {vk : Value} {cs : Array Value} {l : List Q} {css : List (List Value)} {c : List Value} {q : Q}
    (hL : Lst2 ratR E (fun _ => False) 51 3 vk wq l css) (hE : E ≤ wq.heap.size) (hbE : b < E) (hK : Blk b cs wq) (hb5 : Below wq.drew.heap.size wq.drew w5) (m5 : Made wq.drew.heap.size (fun w => ratR w c q) w5) :
    Below wq.heap.size wq w5 ∧ Hid (∀ ob : Obj, Lst2 ratR E (fun _ => False) 51 3 vk (w5.alloc ob) l css) ∧
    Hid (∀ ob : Obj, On (fun b => E ≤ b ∧ b < (w5.alloc ob).heap.size ∧ vk.ownBlock ≠ some b ∧ ¬ False) (fun w => ratR w c q) (w5.alloc ob)) ∧
    Hid (∀ ob : Obj, E ≤ (w5.alloc ob).heap.size) ∧ Hid (∀ (ob : Obj) (b : Nat), False → b < (w5.alloc ob).heap.size) ∧
    Hid (∀ (ob : Obj) (w6 : World), Below E (w5.alloc ob) w6 → Blk b cs w6) ∧ Hid (∀ ob : Obj, Below wq.heap.size wq (w5.alloc ob)) := by
  have hs5 := hb5.size
  have hd : Below wq.heap.size wq w5 := (Below.refl _ wq).drew.trans hb5
  have hda : ∀ ob : Obj, Below wq.heap.size wq (w5.alloc ob) := fun ob => hd.alloc hs5 ob
  have hm : Made wq.heap.size (fun w => ratR w c q) w5 := m5
  refine ⟨hd, Lib.hid fun ob => hL.keep (hda ob), Lib.hid fun ob => ?_, Lib.hid fun ob => Nat.le_trans hE (hda ob).size, Lib.hid fun ob b e => e.elim, Lib.hid fun ob w6 h6 => ?_, Lib.hid hda⟩
  · exact Lst2.fresh (w1 := w5.alloc ob) hL (hm.keep ((Below.refl _ _).alloc (Nat.le_refl _) _)) hE (fun b e => e.elim)
  · exact (hK.keep (hda ob)).off (h6.block b hbE) h6.size

set_option maxRecDepth 100000 in
set_option maxHeartbeats 16000000 in
theorem round_c {w : World} {B g : Nat} {C : ConP} {vg vl ve vv : Value} {gs : List Grp} {rem : List Bool} {ex : Int}
    (hC : CntAt w B g C vg vl ve rem) (hv : IntsAt w vv (votesS gs rem)) (hvr : ∀ x ∈ votesS gs rem, 0 ≤ x ∧ x ≤ 100000) (he0 : 0 ≤ restS gs rem) (he1 : restS gs rem ≤ 100000) (hex : ex = restS gs rem) (h7 : C.n ≤ 7) :
    Calls Tryz.prog 25 #[.pointer (some ⟨B, 0, none⟩), vv, .int .i64 ex] w fun e w' => ∃ a b q1 q2 e1 e2 s1 s2, e = .returned (.tuple #[.agg (rndA a b q1 q2 e1 e2 s1 s2 (.slice none 0 0) (.slice none 0 0) (.slice none 0 0)), .int .i64 (quotaS gs rem)]) ∧
      Made w.heap.size (fun w => RndH w a b q1 q2 e1 e2 s1 s2 (mkR gs rem [] [] [])) w' ∧ (SlV a ∧ SlV b ∧ SlV q1 ∧ SlV q2 ∧ SlV e1 ∧ SlV e2 ∧ SlV s1 ∧ SlV s2) ∧ Below w.heap.size w w' := by
  have hrl := hC.len
  have hvl : (votesS gs rem).length = C.n := by rw [votes_len, hrl]
  have hkl : (keepS rem).length = C.n := by rw [keep_len, hrl]
  have hBw := hC.lt.1
  have hFl := hC.flags
  obtain ⟨_, _, d11, _, _⟩ := hC.cells
  obtain ⟨pv, cv, rfl⟩ := hv.shape
  obtain ⟨n, hn⟩ : ∃ n, C.n = n := ⟨_, rfl⟩
  rw [hvl, hn] at hv
  rw [hvl, hn]
  rw [hn] at hvl hkl h7 hFl d11 hrl
  have hbX : Below w.heap.size w (w.alloc (.cells #[.slice none 0 0, .slice none 0 0, .bool false, .slice none 0 0, .slice none 0 0, .bool false, .slice none 0 0, .slice none 0 0, .bool false, .slice none 0 0, .slice none 0 0, .slice none 0 0, .slice none 0 0, .slice none 0 0] 53)) := (Below.refl _ _).alloc (Nat.le_refl _) _
  have KB := Blk.new w #[.slice none 0 0, .slice none 0 0, .bool false, .slice none 0 0, .slice none 0 0, .bool false, .slice none 0 0, .slice none 0 0, .bool false, .slice none 0 0, .slice none 0 0, .slice none 0 0, .slice none 0 0, .slice none 0 0] 53
  obtain ⟨X, hX⟩ : ∃ X, w.alloc (.cells #[.slice none 0 0, .slice none 0 0, .bool false, .slice none 0 0, .slice none 0 0, .bool false, .slice none 0 0, .slice none 0 0, .bool false, .slice none 0 0, .slice none 0 0, .slice none 0 0, .slice none 0 0, .slice none 0 0] 53) = X := ⟨_, rfl⟩
  have hXs : X.heap.size = w.heap.size + 1 := by rw [← hX]; simp
  have HXS := Lib.hid hXs
  rw [hX] at hbX KB
  have HKB := Lib.hid KB
  have HV := Lib.hid (hv.keep hbX)
  have HVR := Lib.hid hvr
  have HRW : Hid (∀ k, k < n → w.cell? ⟨g, k, none⟩ = some (.bool (rem.getD k false))) := Lib.hid (fun k hk => hC.row.cell (by rw [hn]; exact hk))
  have HVL := Lib.hid hvl
  have HKL := Lib.hid hkl
  have HRL := Lib.hid hrl
  have k11 := cell_keep hbX d11
  have RA : Hid (∀ wq, Below X.heap.size X wq → Calls Tryz.prog 51 #[.slice pv n cv] wq fun e w' => ∃ v', e = .returned v' ∧ (∃ css, RLst wq.heap.size v' w' (wholesS (votesS gs rem)) css) ∧ Below wq.heap.size wq w') := Lib.hid (fun wq h => ratios_c (HV.out.keep h) (fun x hx => by have := HVR.out x hx; omega) (by rw [hvl]; omega))
  have OF := Lib.hid of_z
  have hQ : quotaS gs rem = (votesS gs rem).sum / 2 + 1 := rfl
  have HQ := Lib.hid hQ
  have HEX := Lib.hid hex
  have e0 : 0 ≤ ex := by rw [hex]; exact he0
  have e1 : ex ≤ 100000 := by rw [hex]; exact he1
  clear hC hv hvr hFl hvl hkl hrl d11 hXs KB hQ hex he0 he1
  go_enter Tryz.func25, Tryz.ntmps25
  go_wp2_with fail
  go_loopw [8, 16] (fun sv iv wr => ∃ k : Nat, ∃ s : Int, k ≤ n ∧ iv = .int .i64 k ∧ sv = .int .i64 s ∧ wr = X ∧ Hid (s = ((votesS gs rem).take k).sum) ∧ 0 ≤ s ∧ s ≤ 100000 * (k : Int)) (fun _ iv _ => n - (intOf iv).toNat)
  case atStart => exact ⟨0, 0, by omega, rfl, rfl, rfl, Lib.hid rfl, by omega, by omega⟩
  case round =>
    obtain ⟨k, s, hk, rfl, rfl, rfl, hS, s0, s1⟩ := hrel
    by_cases hlt : k < n
    · have hltz : (k : Int) < (n : Int) := by omega
      obtain ⟨bb, off, hp0, hc1, hc2, hcell⟩ := HV.out.cellAt k (by rw [HVL.out]; exact hlt)
      subst hp0
      have hr := HVR.out ((votesS gs rem).getD k 0) (mem_getD (by rw [HVL.out]; exact hlt) rfl)
      have hst := sum_take_step (l := votesS gs rem) (k := k) (by rw [HVL.out]; exact hlt) rfl
      obtain ⟨y, hy⟩ : ∃ y, (votesS gs rem).getD k 0 = y := ⟨_, rfl⟩
      rw [hy] at hcell hr hst
      rw [← hS.out] at hst
      have HST := Lib.hid hst.symm
      have hws : IntKind.i64.wrap (s + y) = s + y := w64 (by omega) (by omega)
      clear hy hst
      go_wp2_with fail
      go_roundw
      case rel => exact ⟨k + 1, s + y, by omega, by go_num, rfl, by trivial, HST, by omega, by omega⟩
      case measure => simp [intOf] <;> omega
    · have hltz : ¬ (k : Int) < (n : Int) := by omega
      have hSS : s = (votesS gs rem).sum := by rw [hS.out, List.take_of_length_le (by rw [HVL.out]; omega)]
      obtain ⟨q, hq⟩ : ∃ q, s.tdiv 2 = q := ⟨_, rfl⟩
      have hq2 : q = s / 2 := by rw [← hq, Int.tdiv_eq_ediv_of_nonneg s0]
      have q0 : 0 ≤ q := by omega
      have q1 : q ≤ 350000 := by omega
      obtain ⟨z, hz⟩ : ∃ z, q + 1 = z := ⟨_, rfl⟩
      have hw1 : IntKind.i64.wrap q = q := w64 (by omega) (by omega)
      have hw2 : IntKind.i64.wrap z = z := w64 (by omega) (by omega)
      have HZ : Hid (quotaS gs rem = z) := Lib.hid (by rw [HQ.out, ← hz, hq2, hSS])
      have O1 : Hid (∀ w, Calls Tryz.prog 52 #[.int .i64 z] w fun e w' => ∃ p l k p' l' k', e = .returned (.agg #[.bool false, .slice p l k, .slice p' l' k']) ∧ Made w.heap.size (fun w => ratR w [.bool false, .slice p l k, .slice p' l' k'] (wholeQ z)) w' ∧ Below w.heap.size w w') := Lib.hid (fun w => OF.out z (by omega) (by omega) w)
      have O2 : Hid (∀ w, Calls Tryz.prog 52 #[.int .i64 ex] w fun e w' => ∃ p l k p' l' k', e = .returned (.agg #[.bool false, .slice p l k, .slice p' l' k']) ∧ Made w.heap.size (fun w => ratR w [.bool false, .slice p l k, .slice p' l' k'] (wholeQ ex)) w' ∧ Below w.heap.size w w') := Lib.hid (fun w => OF.out ex (by omega) (by omega) w)
      have O3 : Hid (∀ w, Calls Tryz.prog 52 #[.int .i64 0] w fun e w' => ∃ p l k p' l' k', e = .returned (.agg #[.bool false, .slice p l k, .slice p' l' k']) ∧ Made w.heap.size (fun w => ratR w [.bool false, .slice p l k, .slice p' l' k'] (wholeQ 0)) w' ∧ Below w.heap.size w w') := Lib.hid (fun w => OF.out 0 (by omega) (by omega) w)
      have O4 : Hid (∀ w, Calls Tryz.prog 52 #[.int .i64 1] w fun e w' => ∃ p l k p' l' k', e = .returned (.agg #[.bool false, .slice p l k, .slice p' l' k']) ∧ Made w.heap.size (fun w => ratR w [.bool false, .slice p l k, .slice p' l' k'] (wholeQ 1)) w' ∧ Below w.heap.size w w') := Lib.hid (fun w => OF.out 1 (by omega) (by omega) w)
      have hXb : wr.heap.size = w.heap.size + 1 := HXS.out
      have HXB := Lib.hid hXb
      clear hSS hq2 hXb
      go_wp2_with (first
        | (go_at_call 51; ((with_reducible refine (RA.out _ (Below.refl _ _)).mono ?_); rintro e w1 ⟨v1, rfl, ⟨css1, hR1⟩, hb1⟩; obtain ⟨p1, l1, k1, rfl⟩ := own_sl hR1.own; have M1 := Lib.hid (hR1.made (Nat.le_refl _) (Nat.le_refl _)); clear hR1))
        | (go_at_call 52; ((with_reducible refine (O1.out _).mono ?_); rintro e w2 ⟨p2, l2, k2, p3, l3, k3, rfl, m2, hb2⟩; have M2 := Lib.hid m2; have hB2 := bel2' hb1 hb2; clear m2))
        | (go_at_call 52; ((with_reducible refine (O2.out _).mono ?_); rintro e w3 ⟨p4, l4, k4, p5, l5, k5, rfl, m3, hb3⟩; have M3 := Lib.hid m3; have hB3 := bel2' hB2 hb3; clear m3))
        | (go_at_call 52; ((with_reducible refine (O3.out _).mono ?_); rintro e w4 ⟨p6, l6, k6, p7, l7, k7, rfl, m4, hb4⟩; have M4 := Lib.hid m4; have hB4 := bel2' hB3 hb4; clear m4; have KB4 := HKB.out.keep hB4; have c0 := KB4.2.1 0; have f0 := KB4.2.2 0; simp at c0; have c1 := KB4.2.1 1; have f1 := KB4.2.2 1; simp at c1; have c2 := KB4.2.1 2; have f2 := KB4.2.2 2; simp at c2; have c3 := KB4.2.1 3; have f3 := KB4.2.2 3; simp at c3; have c4 := KB4.2.1 4; have f4 := KB4.2.2 4; simp at c4; have c5 := KB4.2.1 5; have f5 := KB4.2.2 5; simp at c5; have c6 := KB4.2.1 6; have f6 := KB4.2.2 6; simp at c6; have c7 := KB4.2.1 7; have f7 := KB4.2.2 7; simp at c7; have c8 := KB4.2.1 8; have f8 := KB4.2.2 8; simp at c8; have c9 := KB4.2.1 9; have f9 := KB4.2.2 9; simp at c9; have c10 := KB4.2.1 10; have f10 := KB4.2.2 10; simp at c10; have c11 := KB4.2.1 11; have f11 := KB4.2.2 11; simp at c11; have c12 := KB4.2.1 12; have f12 := KB4.2.2 12; simp at c12; have c13 := KB4.2.1 13; have f13 := KB4.2.2 13; simp at c13; have HK4 := Lib.hid KB4; have y11 := cell14 (cell_keep hB4 k11) (show B ≠ w.heap.size by omega); clear KB4)))
      obtain ⟨Y, hY⟩ : ∃ Y, ((((((((((((((w4.setCell ⟨w.heap.size, 0, none⟩ (.slice p1 l1 k1)).setCell ⟨w.heap.size, 1, none⟩ (.slice none 0 0)).setCell ⟨w.heap.size, 2, none⟩ (.bool false)).setCell ⟨w.heap.size, 3, none⟩ (.slice p2 l2 k2)).setCell ⟨w.heap.size, 4, none⟩ (.slice p3 l3 k3)).setCell ⟨w.heap.size, 5, none⟩ (.bool false)).setCell ⟨w.heap.size, 6, none⟩ (.slice p4 l4 k4)).setCell ⟨w.heap.size, 7, none⟩ (.slice p5 l5 k5)).setCell ⟨w.heap.size, 8, none⟩ (.bool false)).setCell ⟨w.heap.size, 9, none⟩ (.slice p6 l6 k6)).setCell ⟨w.heap.size, 10, none⟩ (.slice p7 l7 k7)).setCell ⟨w.heap.size, 11, none⟩ (.slice none 0 0)).setCell ⟨w.heap.size, 12, none⟩ (.slice none 0 0)).setCell ⟨w.heap.size, 13, none⟩ (.slice none 0 0)) = Y := ⟨_, rfl⟩
      have KY : Blk w.heap.size (rndA (.slice p1 l1 k1) (.slice none 0 0) (.slice p2 l2 k2) (.slice p3 l3 k3) (.slice p4 l4 k4) (.slice p5 l5 k5) (.slice p6 l6 k6) (.slice p7 l7 k7) (.slice none 0 0) (.slice none 0 0) (.slice none 0 0)) Y := by
        rw [← hY]; exact blk14 HK4.out (.slice p1 l1 k1) (.slice none 0 0) (.bool false) (.slice p2 l2 k2) (.slice p3 l3 k3) (.bool false) (.slice p4 l4 k4) (.slice p5 l5 k5) (.bool false) (.slice p6 l6 k6) (.slice p7 l7 k7) (.slice none 0 0) (.slice none 0 0) (.slice none 0 0)
      have hYs : Y.heap.size = w4.heap.size := by rw [← hY]; simp
      have z1 := hb1.size
      have z2 := hb2.size
      have z3 := hb3.size
      have z4 := hb4.size
      have zX := HXB.out
      have hbY : Below w.heap.size w Y := by rw [← hY]; exact below14 (hbX.trans (hB4.mono (by omega))) (Nat.le_refl _) (.slice p1 l1 k1) (.slice none 0 0) (.bool false) (.slice p2 l2 k2) (.slice p3 l3 k3) (.bool false) (.slice p4 l4 k4) (.slice p5 l5 k5) (.bool false) (.slice p6 l6 k6) (.slice p7 l7 k7) (.slice none 0 0) (.slice none 0 0) (.slice none 0 0)
      have hH : Made (w.heap.size + 1) (fun w => RatsAt w (.slice p1 l1 k1) (wholesS (votesS gs rem)) ∧ ratR w [.bool false, .slice p2 l2 k2, .slice p3 l3 k3] (wholeQ z) ∧ ratR w [.bool false, .slice p4 l4 k4, .slice p5 l5 k5] (wholeQ ex) ∧ ratR w [.bool false, .slice p6 l6 k6, .slice p7 l7 k7] (wholeQ 0)) Y := by
        rw [← hY]
        refine made14 ?_ (.slice p1 l1 k1) (.slice none 0 0) (.bool false) (.slice p2 l2 k2) (.slice p3 l3 k3) (.bool false) (.slice p4 l4 k4) (.slice p5 l5 k5) (.bool false) (.slice p6 l6 k6) (.slice p7 l7 k7) (.slice none 0 0) (.slice none 0 0) (.slice none 0 0)
        have a1 := (M1.out.keep (bel2' (bel2' hb2 hb3) hb4)).mono (B' := w.heap.size + 1) (by omega)
        have a2 := (M2.out.keep (bel2' hb3 hb4)).mono (B' := w.heap.size + 1) (by omega)
        have a3 := (M3.out.keep hb4).mono (B' := w.heap.size + 1) (by omega)
        have a4 := M4.out.mono (B' := w.heap.size + 1) (by omega)
        exact a1.both (a2.both (a3.both a4))
      have HHd := Lib.hid hH
      have HKY := Lib.hid KY
      have hbE : w.heap.size < Y.heap.size := by omega
      rw [hY]
      obtain ⟨E2, hE2⟩ : ∃ E, Y.heap.size = E := ⟨_, rfl⟩
      have HE2 := Lib.hid hE2
      rw [hE2] at hbE
      clear hY y11 hH KY hYs hE2 c0 f0 c1 f1 c2 f2 c3 f3 c4 f4 c5 f5 c6 f6 c7 f7 c8 f8 c9 f9 c10 f10 c11 f11 c12 f12 c13 f13
      go_loopw [40] (fun iv wq => ∃ k : Nat, ∃ vk css, k ≤ n ∧ iv = .int .i64 k ∧ Blk w.heap.size (rndA (.slice p1 l1 k1) vk (.slice p2 l2 k2) (.slice p3 l3 k3) (.slice p4 l4 k4) (.slice p5 l5 k5) (.slice p6 l6 k6) (.slice p7 l7 k7) (.slice none 0 0) (.slice none 0 0) (.slice none 0 0)) wq ∧ Lst2 ratR E2 (fun _ => False) 51 3 vk wq (wholesS ((keepS rem).take k)) css ∧ Hid (On (fun x => w.heap.size + 1 ≤ x ∧ x < E2) (fun w => RatsAt w (.slice p1 l1 k1) (wholesS (votesS gs rem)) ∧ ratR w [.bool false, .slice p2 l2 k2, .slice p3 l3 k3] (wholeQ z) ∧ ratR w [.bool false, .slice p4 l4 k4, .slice p5 l5 k5] (wholeQ ex) ∧ ratR w [.bool false, .slice p6 l6 k6, .slice p7 l7 k7] (wholeQ 0)) wq) ∧ Below w.heap.size w wq ∧ E2 ≤ wq.heap.size) (fun iv _ => n - (intOf iv).toNat)
      case atStart => exact ⟨0, _, _, by omega, rfl, HKY.out, Lst2.nil _, Lib.hid (by rw [← HE2.out]; exact HHd.out), hbY, by rw [HE2.out]; exact Nat.le_refl _⟩
      case round =>
        obtain ⟨k, vk, css, hk, rfl, hKq, hLK, hH, hbel, hE2⟩ := hrel
        have hws := hbel.size
        by_cases hlt : k < n
        · have hltz : (k : Int) < (n : Int) := by omega
          have hcell := cell_keep hbel (HRW.out k hlt)
          have r1 : _ = some vk := hKq.2.1 1
          have hkw : (wholesS ((keepS rem).take k)).length ≤ k := by rw [wholes_len, List.length_take]; omega
          have HN1 : Hid (((wholesS ((keepS rem).take k)).length + 1) * 56 ≤ 140737488355328) := Lib.hid (by omega)
          have HN2 : Hid ((wholesS ((keepS rem).take k)).length + 1 ≤ 9223372036854775807) := Lib.hid (by omega)
          clear hkw
          cases hbk : rem.getD k false
          all_goals rw [hbk] at hcell
          · have HST : Hid ((keepS rem).getD k 0 = 0) := Lib.hid (by rw [keep_get (by rw [HRL.out]; exact hlt), hbk]; rfl)
            have HTK : Hid (wholesS ((keepS rem).take k) ++ [wholeQ 0] = wholesS ((keepS rem).take (k + 1))) := Lib.hid (wholes_snoc (by rw [HKL.out]; exact hlt) HST.out).symm
            clear hbk
            go_wp2_with fail
            go_region_law (first
              | (refine step_append_lst2 erQ (by rfl) (by rfl) (HL5.out _) (by rfl) (by rfl) (c := [.bool false, .slice pa la ka, .slice pb lb kb]) (fun j u h => alloc_cell _ _ _ _ j u (by simpa using h)) (by rfl) (by simp [Value.oneCell']) HN1.out HN2.out (HSZ.out _) (HO5.out _) (HEL.out _) ?_; intro v6 w6 hL6 hb6 hg6 hG6; obtain ⟨py, ny, cy, rfl⟩ := own_sl hL6.own; have hL6 := Lib.hid hL6; have hb6h := Lib.hid hb6; have hK6 := HC6.out _ _ hb6; have g1 := hK6.2.1 1; have g1f := hK6.2.2 1; simp [rndA] at g1; have hK6 := Lib.hid hK6)
              | (go_simp; go_at_call 52; ((with_reducible refine (O3.out _).mono ?_); rintro e w5 ⟨pa, la, ka, pb, lb, kb, rfl, m5, hb5⟩; obtain ⟨hW5, HL5, HEL, HSZ, HO5, HC6, HDA⟩ := rnd_arm hLK hE2 hbE hKq hb5 m5; have r1b := cell_keep hW5 r1; have r1c := fun ob => cell_keep (HDA.out ob) r1)))
            all_goals
              go_wp2_with fail
              go_roundw
              case rel =>
                have hbq : Below w.heap.size w (w6.setCell ⟨w.heap.size, 1, none⟩ (.slice py ny cy)) := ((hbel.trans ((HDA.out _).mono hws)).trans (hb6h.out.mono (by omega))).setCell (p := ⟨w.heap.size, 1, none⟩) (Nat.le_refl _) _
                have hB7 : Blk w.heap.size (rndA (.slice p1 l1 k1) (.slice py ny cy) (.slice p2 l2 k2) (.slice p3 l3 k3) (.slice p4 l4 k4) (.slice p5 l5 k5) (.slice p6 l6 k6) (.slice p7 l7 k7) (.slice none 0 0) (.slice none 0 0) (.slice none 0 0)) (w6.setCell ⟨w.heap.size, 1, none⟩ (.slice py ny cy)) := blk_put hK6.out (o := 1) (by simp [rndA]) _
                have hL7 := hL6.out.put (b := w.heap.size) (j := 1) hbE (.slice py ny cy)
                rw [HTK.out] at hL7
                have hO7 := On.step (w' := w6.setCell ⟨w.heap.size, 1, none⟩ (.slice py ny cy)) hH.out fun b hb => by rw [Below.heap_setCell _ _ _ _ (by simp only; omega), hb6h.out.block b hb.2, (HDA.out _).block b (by omega)]
                have hs7 : E2 ≤ (w6.setCell ⟨w.heap.size, 1, none⟩ (.slice py ny cy)).heap.size := by rw [World.size_setCell]; exact Nat.le_trans (HSZ.out _) hb6h.out.size
                exact ⟨k + 1, _, _, by omega, by go_num, hB7, hL7, Lib.hid hO7, hbq, hs7⟩
              case measure => simp [intOf] <;> omega
          · have HST : Hid ((keepS rem).getD k 0 = 1) := Lib.hid (by rw [keep_get (by rw [HRL.out]; exact hlt), hbk]; rfl)
            have HTK : Hid (wholesS ((keepS rem).take k) ++ [wholeQ 1] = wholesS ((keepS rem).take (k + 1))) := Lib.hid (wholes_snoc (by rw [HKL.out]; exact hlt) HST.out).symm
            clear hbk
            go_wp2_with fail
            go_region_law (first
              | (refine step_append_lst2 erQ (by rfl) (by rfl) (HL5.out _) (by rfl) (by rfl) (c := [.bool false, .slice pa la ka, .slice pb lb kb]) (fun j u h => alloc_cell _ _ _ _ j u (by simpa using h)) (by rfl) (by simp [Value.oneCell']) HN1.out HN2.out (HSZ.out _) (HO5.out _) (HEL.out _) ?_; intro v6 w6 hL6 hb6 hg6 hG6; obtain ⟨py, ny, cy, rfl⟩ := own_sl hL6.own; have hL6 := Lib.hid hL6; have hb6h := Lib.hid hb6; have hK6 := HC6.out _ _ hb6; have g1 := hK6.2.1 1; have g1f := hK6.2.2 1; simp [rndA] at g1; have hK6 := Lib.hid hK6)
              | (go_simp; go_at_call 52; ((with_reducible refine (O4.out _).mono ?_); rintro e w5 ⟨pa, la, ka, pb, lb, kb, rfl, m5, hb5⟩; obtain ⟨hW5, HL5, HEL, HSZ, HO5, HC6, HDA⟩ := rnd_arm hLK hE2 hbE hKq hb5 m5; have r1b := cell_keep hW5 r1; have r1c := fun ob => cell_keep (HDA.out ob) r1)))
            all_goals
              go_wp2_with fail
              go_roundw
              case rel =>
                have hbq : Below w.heap.size w (w6.setCell ⟨w.heap.size, 1, none⟩ (.slice py ny cy)) := ((hbel.trans ((HDA.out _).mono hws)).trans (hb6h.out.mono (by omega))).setCell (p := ⟨w.heap.size, 1, none⟩) (Nat.le_refl _) _
                have hB7 : Blk w.heap.size (rndA (.slice p1 l1 k1) (.slice py ny cy) (.slice p2 l2 k2) (.slice p3 l3 k3) (.slice p4 l4 k4) (.slice p5 l5 k5) (.slice p6 l6 k6) (.slice p7 l7 k7) (.slice none 0 0) (.slice none 0 0) (.slice none 0 0)) (w6.setCell ⟨w.heap.size, 1, none⟩ (.slice py ny cy)) := blk_put hK6.out (o := 1) (by simp [rndA]) _
                have hL7 := hL6.out.put (b := w.heap.size) (j := 1) hbE (.slice py ny cy)
                rw [HTK.out] at hL7
                have hO7 := On.step (w' := w6.setCell ⟨w.heap.size, 1, none⟩ (.slice py ny cy)) hH.out fun b hb => by rw [Below.heap_setCell _ _ _ _ (by simp only; omega), hb6h.out.block b hb.2, (HDA.out _).block b (by omega)]
                have hs7 : E2 ≤ (w6.setCell ⟨w.heap.size, 1, none⟩ (.slice py ny cy)).heap.size := by rw [World.size_setCell]; exact Nat.le_trans (HSZ.out _) hb6h.out.size
                exact ⟨k + 1, _, _, by omega, by go_num, hB7, hL7, Lib.hid hO7, hbq, hs7⟩
              case measure => simp [intOf] <;> omega
        · obtain rfl : k = n := by omega
          obtain ⟨pk, nk, ck, rfl⟩ := own_sl hLK.own
          rw [List.take_of_length_le (by rw [HKL.out]; exact Nat.le_refl _)] at hLK
          have hzE := HE2.out
          have hMK : Made (w.heap.size + 1) (fun w => RatsAt w (.slice pk nk ck) (wholesS (keepS rem))) wr := hLK.lst.made (by omega) (by omega)
          have hMH : Made (w.heap.size + 1) (fun w => RatsAt w (.slice p1 l1 k1) (wholesS (votesS gs rem)) ∧ ratR w [.bool false, .slice p2 l2 k2, .slice p3 l3 k3] (wholeQ z) ∧ ratR w [.bool false, .slice p4 l4 k4, .slice p5 l5 k5] (wholeQ ex) ∧ ratR w [.bool false, .slice p6 l6 k6, .slice p7 l7 k7] (wholeQ 0)) wr := On.mono hH.out fun b hb => ⟨hb.1, by omega⟩
          have hMR : Made (w.heap.size + 1) (fun w => RndH w (.slice p1 l1 k1) (.slice pk nk ck) (.slice p2 l2 k2) (.slice p3 l3 k3) (.slice p4 l4 k4) (.slice p5 l5 k5) (.slice p6 l6 k6) (.slice p7 l7 k7) (mkR gs rem [] [] [])) wr := (hMH.both hMK).imp fun w' g => ⟨g.1.1, g.2, by show ratR w' _ (wholeQ (quotaS gs rem)); rw [HZ.out]; exact g.1.2.1, by show ratR w' _ (wholeQ (restS gs rem)); rw [← HEX.out]; exact g.1.2.2.1, g.1.2.2.2⟩
          have hM14 := Lib.hid ((made14 hMR (.slice p1 l1 k1) (.slice pk nk ck) (.bool false) (.slice p2 l2 k2) (.slice p3 l3 k3) (.bool false) (.slice p4 l4 k4) (.slice p5 l5 k5) (.bool false) (.slice p6 l6 k6) (.slice p7 l7 k7) (.slice none 0 0) (.slice none 0 0) (.slice none 0 0)).mono (Nat.le_succ _))
          have hB14 := Lib.hid (below14 hbel (Nat.le_refl _) (.slice p1 l1 k1) (.slice pk nk ck) (.bool false) (.slice p2 l2 k2) (.slice p3 l3 k3) (.bool false) (.slice p4 l4 k4) (.slice p5 l5 k5) (.bool false) (.slice p6 l6 k6) (.slice p7 l7 k7) (.slice none 0 0) (.slice none 0 0) (.slice none 0 0))
          have c0 := hKq.2.1 0
          have f0 := hKq.2.2 0
          have c1 := hKq.2.1 1
          have f1 := hKq.2.2 1
          have c2 := hKq.2.1 2
          have f2 := hKq.2.2 2
          have c3 := hKq.2.1 3
          have f3 := hKq.2.2 3
          have c4 := hKq.2.1 4
          have f4 := hKq.2.2 4
          have c5 := hKq.2.1 5
          have f5 := hKq.2.2 5
          have c6 := hKq.2.1 6
          have f6 := hKq.2.2 6
          have c7 := hKq.2.1 7
          have f7 := hKq.2.2 7
          have c8 := hKq.2.1 8
          have f8 := hKq.2.2 8
          have c9 := hKq.2.1 9
          have f9 := hKq.2.2 9
          have c10 := hKq.2.1 10
          have f10 := hKq.2.2 10
          have c11 := hKq.2.1 11
          have f11 := hKq.2.2 11
          have c12 := hKq.2.1 12
          have f12 := hKq.2.2 12
          have c13 := hKq.2.1 13
          have f13 := hKq.2.2 13
          simp only [rndA, List.getElem?_toArray, List.getElem?_cons_zero, List.getElem?_cons_succ] at c0 c1 c2 c3 c4 c5 c6 c7 c8 c9 c10 c11 c12 c13
          clear hMK hMH hMR hKq hLK
          go_wp2_with fail
          refine bodyPost_ret (v := .tuple #[.agg (rndA (.slice p1 l1 k1) (.slice pk nk ck) (.slice p2 l2 k2) (.slice p3 l3 k3) (.slice p4 l4 k4) (.slice p5 l5 k5) (.slice p6 l6 k6) (.slice p7 l7 k7) (.slice none 0 0) (.slice none 0 0) (.slice none 0 0)), .int .i64 z]) (by simp [rndA, results, Tryz.results25, go_sem, c0, c1, c2, c3, c4, c5, c6, c7, c8, c9, c10, c11, c12, c13]) rfl ?_
          exact ⟨_, _, _, _, _, _, _, _, by rw [HZ.out], hM14.out, ⟨⟨_, _, _, rfl⟩, ⟨_, _, _, rfl⟩, ⟨_, _, _, rfl⟩, ⟨_, _, _, rfl⟩, ⟨_, _, _, rfl⟩, ⟨_, _, _, rfl⟩, ⟨_, _, _, rfl⟩, ⟨_, _, _, rfl⟩⟩, hB14.out⟩

end Go.Proofs.YtbnhgmikegdppaaGreat

/- Each candidate that can win wins for some lots, plain. -/
namespace Go.Proofs.Nums

/-- A way down: who is excluded, one after the other, and what then remains. -/
inductive Path (n : Int) (gs : List Grp) : List Int → (Int → Bool) → Prop
  | full : Path n gs [] (fun c => decide (0 ≤ c ∧ c < n))
  | step {es : List Int} {R : Int → Bool} {x d : Int} : Path n gs es R → Low gs R x → R d = true → d ≠ x → Path n gs (es ++ [x]) (fun d => R d && decide (d ≠ x))
theorem path_of {n : Int} {gs : List Grp} {R : Int → Bool} (h : Rch n gs R) : ∃ es, Path n gs es R := by
  induction h with
  | full => exact ⟨[], Path.full⟩
  | step h hl hd hx ih => obtain ⟨es, he⟩ := ih; exact ⟨_, he.step hl hd hx⟩
structure PF (n : Int) (es : List Int) (R : Int → Bool) : Prop where
  nd : es.Nodup
  off : ∀ c, R c = true → c ∉ es
  all : ∀ c, 0 ≤ c → c < n → c ∈ es ∨ R c = true
  rng : ∀ c, c ∈ es ∨ R c = true → 0 ≤ c ∧ c < n
theorem Path.facts {n : Int} {gs : List Grp} {es : List Int} {R : Int → Bool} (h : Path n gs es R) : PF n es R := by
  induction h with
  | full => exact ⟨List.nodup_nil, fun c _ => by simp, fun c h0 h1 => .inr (by simpa using ⟨h0, h1⟩), fun c h => by
      rcases h with h | h
      · simp at h
      · simpa using h⟩
  | @step es R x d h hl hd hx ih =>
    have hxr : R x = true := hl.1
    refine ⟨?_, fun c hc => ?_, fun c h0 h1 => ?_, fun c hc => ?_⟩
    · rw [List.nodup_append]
      refine ⟨ih.nd, by simp, fun a ha b hb e => ?_⟩
      rw [List.mem_singleton.1 hb] at e
      subst e
      exact ih.off a hxr ha
    · rw [Bool.and_eq_true, decide_eq_true_iff] at hc
      rw [List.mem_append, List.mem_singleton]
      rintro (g | g)
      · exact ih.off c hc.1 g
      · exact hc.2 g
    · by_cases e : c = x
      · exact .inl (by simp [e])
      · rcases ih.all c h0 h1 with g | g
        · exact .inl (List.mem_append_left _ g)
        · exact .inr (by simp [g, e])
    · rcases hc with g | g
      · rcases List.mem_append.1 g with g | g
        · exact ih.rng c (.inl g)
        · rw [List.mem_singleton.1 g]; exact ih.rng x (.inr hxr)
      · rw [Bool.and_eq_true] at g
        exact ih.rng c (.inr g.1)
theorem place_in {a b : List Int} {x : Int} (h : x ∈ a) : placeN (a ++ b) x < a.length := by
  induction a with
  | nil => simp at h
  | cons y a ih =>
    rw [List.cons_append]
    unfold placeN
    split
    · simp
    · next e =>
      have : x ∈ a := by
        rcases List.mem_cons.1 h with g | g
        · exact absurd g.symm e
        · exact g
      have := ih this
      simp
      omega
theorem place_off {a b : List Int} {x : Int} (h : x ∉ a) : a.length ≤ placeN (a ++ b) x := by
  induction a with
  | nil => simp
  | cons y a ih =>
    rw [List.cons_append]
    unfold placeN
    rw [List.mem_cons, not_or] at h
    rw [if_neg (fun e => h.1 e.symm)]
    have := ih h.2
    simp
    omega
/-- With the excluded ones at the end of the lots, the last first, the count goes this way. -/
theorem path_run {n : Nat} {gs : List Grp} (hn : 1 ≤ n) (h7 : n ≤ 7) {es : List Int} {R : Int → Bool} (h : Path n gs es R) : ∀ (front : List Int), Lots n (front ++ es.reverse) → ∀ m, ∃ rem ear, rem.length = n ∧ remB rem = R ∧ orderS (brkS 3 (front ++ es.reverse)) gs (es.length + m) (List.replicate n true) [] = es ++ orderS (brkS 3 (front ++ es.reverse)) gs m rem ear := by
  induction h with
  | full => exact fun front _ m => ⟨List.replicate n true, [], List.length_replicate, rem_full n, by simp⟩
  | @step es R x d h hl hd hdx ih =>
    intro front hlots m
    have e : front ++ (es ++ [x]).reverse = (front ++ [x]) ++ es.reverse := by simp
    rw [e] at hlots ⊢
    obtain ⟨rem, ear, r1, r2, r3⟩ := ih (front ++ [x]) hlots (m + 1)
    have hf := h.facts
    generalize hL : (front ++ [x]) ++ es.reverse = lots at hlots r3 ⊢
    have hxa : x ∈ aliveS rem := mem_alive.2 (by rw [r2]; exact hl.1)
    have hda : d ∈ aliveS rem := mem_alive.2 (by rw [r2]; exact hd)
    have hne : aliveS rem ≠ [] := fun e => by rw [e] at hxa; simp at hxa
    have h1 : 1 < (aliveS rem).length := by
      refine Classical.byContradiction fun g => ?_
      have h0 : 0 < (aliveS rem).length := List.length_pos_of_mem hxa
      obtain ⟨y, hy⟩ := List.length_eq_one_iff.1 (show (aliveS rem).length = 1 by omega)
      rw [hy] at hxa hda
      exact hdx ((List.mem_singleton.1 hda).trans (List.mem_singleton.1 hxa).symm)
    have hxl : x ∈ lowS gs rem := mem_low.2 (by rw [r2]; exact hl)
    have hnd := hlots.1.2
    have hex : exclS (brkS 3 lots) gs rem ear = x := by
      unfold exclS
      have hlne := low_ne (gs := gs) hne
      split
      · have hv := lots_valid (rule := 3) hlots (by omega) (by omega) hn h7 hlne (fun c hc => by have := remB_lt (mem_alive.1 (low_sub hc)); rw [r1] at this; exact this) (low_sorted gs rem)
        unfold brkS
        rw [break_valid hv]
        have e0 : leftS true (roundsS 3 (ear.map wholesS)) (lowS gs rem) = lowS gs rem := by simp [roundsS, leftS]
        rw [e0, if_neg (by omega)]
        simp only
        have hp := pick_mem (lots := lots) (least := true) hlne
        have hfar := pick_far (lots := lots) (least := true) hlne x hxl
        simp only [if_true] at hfar
        generalize pickS lots true (lowS gs rem) = y at hp hfar ⊢
        refine Classical.byContradiction fun hyx => ?_
        have hya := mem_alive.1 (low_sub hp)
        rw [r2] at hya
        have hyl : y ∈ lots := by
          have hr := hf.rng y (.inr hya)
          have := bal_mem (l := lots) (by rw [hlots.2]; exact hlots.1) hr.1 (by rw [hlots.2]; exact hr.2)
          exact this
        have hyf : y ∈ front := by
          rw [← hL, List.mem_append, List.mem_append, List.mem_singleton, List.mem_reverse] at hyl
          rcases hyl with (g | g) | g
          · exact g
          · exact absurd g hyx
          · exact absurd g (hf.off y hya)
        have p1 : placeN lots y < front.length := by
          rw [← hL, List.append_assoc]; exact place_in hyf
        have hxf : x ∉ front := by
          rw [← hL, List.append_assoc, List.nodup_append] at hnd
          exact fun g => hnd.2.2 x g x (by simp) rfl
        have p2 : front.length ≤ placeN lots x := by
          rw [← hL, List.append_assoc]; exact place_off hxf
        omega
      · next g =>
        have h0 : 0 < (lowS gs rem).length := List.length_pos_of_mem hxl
        obtain ⟨y, hy⟩ := List.length_eq_one_iff.1 (show (lowS gs rem).length = 1 by omega)
        rw [hy] at hxl ⊢
        exact (List.mem_singleton.1 hxl).symm
    have rx := remB_lt (mem_alive.1 hxa)
    refine ⟨rem.set x.toNat false, ear ++ [votesS gs rem], by rw [List.length_set]; exact r1, by rw [rem_set rx.1, r2], ?_⟩
    rw [List.length_append, List.length_singleton, show es.length + 1 + m = es.length + (m + 1) by omega, r3]
    conv => lhs; rw [orderS.eq_def]
    simp only
    rw [if_pos h1, hex, List.append_assoc]
    rfl
theorem can_lots {n : Nat} {gs : List Grp} (hn : 1 ≤ n) (h7 : n ≤ 7) {c : Int} (h : Rch n gs (single c)) : ∃ lots, Lots n lots ∧ (orderS (brkS 3 lots) gs n (List.replicate n true) []).getLast? = some c := by
  obtain ⟨es, he⟩ := path_of h
  have hf := he.facts
  have hsc : single c c = true := by simp [single]
  have hce := hf.off c hsc
  have hnd : (c :: es).Nodup := List.nodup_cons.2 ⟨hce, hf.nd⟩
  have hmem : ∀ y : Int, y ∈ c :: es ↔ 0 ≤ y ∧ y < n := by
    intro y
    rw [List.mem_cons]
    constructor
    · rintro (g | g)
      · rw [g]; exact hf.rng c (.inr hsc)
      · exact hf.rng y (.inl g)
    · rintro ⟨h0, h1⟩
      rcases hf.all y h0 h1 with g | g
      · exact .inr g
      · left; simpa [single] using g
  have hlen : es.length + 1 = n := by
    have hp : (c :: es).Perm ((List.range n).map fun i : Nat => (i : Int)) := by
      refine (List.perm_ext_iff_of_nodup hnd (sorted_nodup (range_sorted n))).2 fun y => ?_
      rw [hmem, List.mem_map]
      constructor
      · rintro ⟨h0, h1⟩
        exact ⟨y.toNat, List.mem_range.2 (by omega), by omega⟩
      · rintro ⟨i, hi, rfl⟩
        have := List.mem_range.1 hi
        omega
    have := hp.length_eq
    simpa using this
  have hl : Lots n ([c] ++ es.reverse) := by
    refine ⟨⟨fun y hy => ?_, ?_⟩, by simp; omega⟩
    · refine (hmem y).1 ?_
      rw [List.mem_append, List.mem_singleton, List.mem_reverse] at hy
      exact List.mem_cons.2 hy
    · rw [List.singleton_append, List.nodup_cons, List.mem_reverse]
      exact ⟨hce, (List.reverse_perm es).nodup_iff.2 hf.nd⟩
  obtain ⟨rem, ear, r1, r2, r3⟩ := path_run hn h7 he [c] hl 1
  refine ⟨_, hl, ?_⟩
  rw [hlen] at r3
  rw [r3]
  have ha : aliveS rem = [c] := by
    have hca : c ∈ aliveS rem := mem_alive.2 (by rw [r2]; exact hsc)
    have hall : ∀ y ∈ aliveS rem, y = c := fun y hy => by
      have := mem_alive.1 hy
      rw [r2] at this
      simpa [single] using this
    have hnd := sorted_nodup (alive_sorted rem)
    cases hal : aliveS rem with
    | nil => rw [hal] at hca; simp at hca
    | cons a t =>
      rw [hal] at hall hnd
      have ea := hall a (by simp)
      cases t with
      | nil => rw [ea]
      | cons b t =>
        have eb := hall b (by simp)
        rw [ea, eb] at hnd
        simp at hnd
  conv => lhs; rw [orderS.eq_def]
  simp only
  rw [ha, if_neg (by simp)]
  simp

end Go.Proofs.Nums

/- When a contest can be counted; bounds of votes; steps of the order, plain. -/
namespace Go.Proofs.Nums

theorem PileP.seven {n : Int} {gs : List Grp} (h : PileP n gs) (h7 : n ≤ 7) : PileP 7 gs :=
  ⟨fun g hg => ⟨fun c hc => by have := (h.bal g hg).1 c hc; omega, (h.bal g hg).2⟩, h.pos, h.tot, h.srt⟩
theorem votes_rng {gs : List Grp} {rem : List Bool} {n : Int} (hp : PileP n gs) : ∀ x ∈ votesS gs rem, 0 ≤ x ∧ x ≤ 100000 := by
  intro x hx
  obtain ⟨i, _, rfl⟩ := List.mem_map.1 hx
  have := wt_tot (R := remB rem) hp.pos i
  have := hp.tot
  omega
theorem rest_rng {gs : List Grp} {rem : List Bool} {n : Int} (hp : PileP n gs) : 0 ≤ restS gs rem ∧ restS gs rem ≤ 100000 := by
  have := wt_tot (R := remB rem) hp.pos (-1)
  have := hp.tot
  unfold restS
  omega
theorem order_more {brk : List (List Int) → List Int → Int} {gs : List Grp} {k : Nat} {rem : List Bool} {ear : List (List Int)} (h : 1 < (aliveS rem).length) :
    orderS brk gs (k + 1) rem ear = exclS brk gs rem ear :: orderS brk gs k (rem.set (exclS brk gs rem ear).toNat false) (ear ++ [votesS gs rem]) := by
  rw [orderS.eq_def]; simp only; rw [if_pos h]
theorem order_done {brk : List (List Int) → List Int → Int} {gs : List Grp} {k : Nat} {rem : List Bool} {ear : List (List Int)} (h : ¬ 1 < (aliveS rem).length) : orderS brk gs (k + 1) rem ear = aliveS rem := by
  rw [orderS.eq_def]; simp only; rw [if_neg h]
theorem alive_all_len (n : Nat) : (aliveS (List.replicate n true)).length = n := by rw [alive_full]; simp
theorem perm_true {n : Nat} {l : List Int} : (decide (l.length = n) && balS n l) = true ↔ Lots n l := by
  unfold Lots balS
  rw [Bool.and_eq_true, decide_eq_true_iff, decide_eq_true_iff]
  exact And.comm

end Go.Proofs.Nums
namespace Go.Proofs.YtbnhgmikegdppaaGreat
open Go.RowKit Go.Proofs.Kit Go.Proofs.Nums

/-- The contest can be counted. -/
structure OkC (C : ConP) (gs : List Grp) (lots : List Int) : Prop where
  cm : C.cm = 1
  n1 : 1 ≤ C.n
  n7 : C.n ≤ 7
  seats : C.seats = 1
  digits : C.digits = 0
  t1 : 1 ≤ C.ties
  t3 : C.ties ≤ 3
  pile : PileP C.n gs
  lots : Lots C.n lots
/-- What pile.Fit says. -/
noncomputable def fitC (C : ConP) (gs : List Grp) (lots : List Int) : Int := fitS C.n C.cm C.seats C.digits C.ties gs lots
theorem fit_iff {C : ConP} {gs : List Grp} {lots : List Int} : fitC C gs lots = 0 ↔ OkC C gs lots := by
  unfold fitC fitS
  constructor
  · intro h
    split at h
    · next h1 =>
      split at h
      · next h2 =>
        split at h
        · next h3 =>
          split at h
          · next h4 => exact ⟨h1, h2.1, h2.2.1, h2.2.2.1, h2.2.2.2.1, h2.2.2.2.2.1, h2.2.2.2.2.2, pile_true.1 h3, perm_true.1 h4⟩
          · omega
        · omega
      · omega
    · omega
  · intro h
    rw [if_pos h.cm, if_pos ⟨h.n1, h.n7, h.seats, h.digits, h.t1, h.t3⟩, if_pos (pile_true.2 h.pile), if_pos (show permB C.n lots = true from perm_true.2 h.lots)]
theorem OkC.brk {C : ConP} {gs : List Grp} {lots : List Int} (h : OkC C gs lots) : Brk C.n (brkS C.ties lots) := brk_in h.lots h.t1 h.t3 h.n1 h.n7
theorem OkC.seven {C : ConP} {gs : List Grp} {lots : List Int} (h : OkC C gs lots) : PileP 7 gs := h.pile.seven (by have := h.n7; omega)
def conC (C : ConP) : Value := conV C.nm C.p C.n C.c C.cm C.seats C.ranks C.digits C.ties C.over C.skip

end Go.Proofs.YtbnhgmikegdppaaGreat

/- Sets of candidates as bit masks, and what can be reached; plain. -/
namespace Go.Proofs.Nums

/-- The members of a mask, as flags. -/
def remS (n s : Nat) : List Bool := (List.range n).map fun c => s.testBit c
theorem remS_len (n s : Nat) : (remS n s).length = n := by simp [remS]
theorem remS_get {n s c : Nat} (h : c < n) : (remS n s).getD c false = s.testBit c := by
  unfold remS
  rw [List.getD_eq_getElem?_getD, List.getElem?_map, List.getElem?_range h]
  rfl
theorem remS_at {n s : Nat} (c : Int) : remB (remS n s) c = decide (0 ≤ c ∧ c < n ∧ s.testBit c.toNat = true) := by
  rw [Bool.eq_iff_iff, decide_eq_true_iff]
  constructor
  · intro h
    have h2 := remB_lt h
    rw [remS_len] at h2
    unfold remB at h
    rw [decide_eq_true h2.1, Bool.true_and, remS_get (by omega)] at h
    exact ⟨h2.1, h2.2, h⟩
  · rintro ⟨h0, h1, h2⟩
    unfold remB
    rw [decide_eq_true h0, Bool.true_and, remS_get (by omega)]
    exact h2
/-- The first k flags are laid. -/
def bitsTo (n s k : Nat) : List Bool := (List.range n).map fun c => decide (c < k) && s.testBit c
theorem bitsTo_zero (n s : Nat) : bitsTo n s 0 = List.replicate n false := by
  refine List.ext_getElem? fun i => ?_
  unfold bitsTo
  rw [List.getElem?_map, List.getElem?_replicate]
  by_cases h : i < n
  · rw [List.getElem?_range h, if_pos h]; rfl
  · rw [List.getElem?_eq_none (by simpa using h), if_neg h]; rfl
theorem bitsTo_all (n s : Nat) : bitsTo n s n = remS n s := by
  unfold bitsTo remS
  refine List.map_congr_left fun c hc => ?_
  rw [decide_eq_true (List.mem_range.1 hc), Bool.true_and]
theorem bitsTo_step {n s k : Nat} (h : k < n) : (bitsTo n s k).set k (s.testBit k) = bitsTo n s (k + 1) := by
  refine List.ext_getElem? fun i => ?_
  unfold bitsTo
  rw [List.getElem?_set, List.getElem?_map, List.getElem?_map, List.length_map, List.length_range]
  by_cases hi : i < n
  · rw [List.getElem?_range hi]
    by_cases e : k = i
    · subst e; simp [h]
    · rw [if_neg e]
      have : decide (i < k + 1) = decide (i < k) := by rw [decide_eq_decide]; omega
      simp [this]
  · rw [List.getElem?_eq_none (by simpa using hi)]
    rw [if_neg (by omega)]
    rfl
/-- The mask without c. -/
theorem mask_sub : ∀ s < 128, ∀ c < 7, s.testBit c = true → 2 ^ c ≤ s ∧ ∀ d < 7, (s - 2 ^ c).testBit d = (s.testBit d && decide (d ≠ c)) := by decide +kernel
theorem mask_one : ∀ c < 7, ∀ d < 7, (2 ^ c).testBit d = decide (d = c) := by decide +kernel
theorem mask_full : ∀ n < 8, ∀ d < n, (2 ^ n - 1).testBit d = true := by decide +kernel
theorem mask_zero : ∀ s < 128, (∀ c < 7, s.testBit c = false) → s = 0 := by decide +kernel
theorem pow_128 : ∀ n < 8, 2 ^ n ≤ 128 ∧ 1 ≤ 2 ^ n ∧ ∀ c < n, 2 ^ c < 2 ^ n := by decide +kernel
def setB (n s : Nat) : Int → Bool := remB (remS n s)
theorem setB_at {n s : Nat} (c : Int) : setB n s c = decide (0 ≤ c ∧ c < n ∧ s.testBit c.toNat = true) := remS_at c
theorem setB_nat {n s c : Nat} (h : c < n) : setB n s c = s.testBit c := by
  rw [setB_at, Bool.eq_iff_iff, decide_eq_true_iff, Int.toNat_natCast]
  exact ⟨fun h => h.2.2, fun g => ⟨by omega, by omega, g⟩⟩
theorem setB_full {n : Nat} (h7 : n ≤ 7) : setB n (2 ^ n - 1) = fun c => decide (0 ≤ c ∧ c < (n : Int)) := by
  funext c
  rw [setB_at, decide_eq_decide]
  constructor
  · exact fun h => ⟨h.1, h.2.1⟩
  · exact fun h => ⟨h.1, h.2, mask_full n (by omega) _ (by omega)⟩
theorem setB_sub {n s c : Nat} (h7 : n ≤ 7) (hs : s < 2 ^ n) (hc : c < n) (hb : s.testBit c = true) : setB n (s - 2 ^ c) = fun d => setB n s d && decide (d ≠ (c : Int)) := by
  have hp := pow_128 n (by omega)
  funext d
  rw [setB_at, setB_at, Bool.eq_iff_iff, Bool.and_eq_true, decide_eq_true_iff, decide_eq_true_iff, decide_eq_true_iff]
  constructor
  · rintro ⟨h0, h1, h2⟩
    rw [(mask_sub s (by omega) c (by omega) hb).2 _ (by omega), Bool.and_eq_true, decide_eq_true_iff] at h2
    exact ⟨⟨h0, h1, h2.1⟩, by omega⟩
  · rintro ⟨⟨h0, h1, h2⟩, h3⟩
    refine ⟨h0, h1, ?_⟩
    rw [(mask_sub s (by omega) c (by omega) hb).2 _ (by omega), h2, Bool.true_and, decide_eq_true_iff]
    omega
theorem setB_one {n c : Nat} (h7 : n ≤ 7) (hc : c < n) : setB n (2 ^ c) = single c := by
  funext d
  unfold single
  rw [setB_at, decide_eq_decide]
  constructor
  · rintro ⟨h0, h1, h2⟩
    rw [mask_one c (by omega) _ (by omega), decide_eq_true_iff] at h2
    omega
  · rintro rfl
    refine ⟨by omega, by omega, ?_⟩
    rw [mask_one c (by omega) _ (by omega), Int.toNat_natCast]
    simp
theorem setB_inj {n s t : Nat} (_h7 : n ≤ 7) (hs : s < 2 ^ n) (ht : t < 2 ^ n) (h : setB n s = setB n t) : s = t := by
  refine Nat.eq_of_testBit_eq fun i => ?_
  by_cases hi : i < n
  · have := congrFun h (i : Int)
    rwa [setB_nat hi, setB_nat hi] at this
  · have hp : 2 ^ n ≤ 2 ^ i := Nat.pow_le_pow_right (by omega) (by omega)
    rw [Nat.testBit_lt_two_pow (by omega), Nat.testBit_lt_two_pow (by omega)]

/-- The table of reached sets while set s is looked at, its candidates in D done. -/
structure RInv (n : Nat) (gs : List Grp) (R : List Bool) (s : Nat) (D : Nat → Prop) : Prop where
  len : R.length = 2 ^ n
  top : R.getD (2 ^ n - 1) false = true
  snd : ∀ t, t < 2 ^ n → R.getD t false = true → t ≠ 0 → Rch n gs (setB n t)
  cmp : ∀ t, t < 2 ^ n → R.getD t false = true → ∀ c, c < n → (s < t ∨ (t = s ∧ D c)) → t ≠ 2 ^ c → Low gs (setB n t) c → R.getD (t - 2 ^ c) false = true
theorem set_getD {R : List Bool} {i j : Nat} {x : Bool} (h : i < R.length) : (R.set i x).getD j false = if i = j then x else R.getD j false := by
  rw [List.getD_eq_getElem?_getD, List.getElem?_set, List.getD_eq_getElem?_getD]
  by_cases e : i = j
  · rw [if_pos e, if_pos e, if_pos h]; rfl
  · rw [if_neg e, if_neg e]
theorem RInv.start {n : Nat} {gs : List Grp} (h7 : n ≤ 7) {D : Nat → Prop} (hD : ∀ c, ¬ D c) : RInv n gs ((List.replicate (2 ^ n) false).set (2 ^ n - 1) true) (2 ^ n - 1) D := by
  have hp := pow_128 n (by omega)
  have hl : 2 ^ n - 1 < (List.replicate (2 ^ n) false).length := by rw [List.length_replicate]; omega
  refine ⟨by simp, by rw [set_getD hl, if_pos rfl], fun t ht h h0 => ?_, fun t ht _ c _ hc => ?_⟩
  · rw [set_getD hl] at h
    split at h
    · next e => rw [← e, setB_full h7]; exact Rch.full
    · rw [List.getD_eq_getElem?_getD, List.getElem?_replicate, if_pos ht] at h
      simp at h
  · rcases hc with hc | hc
    · omega
    · exact absurd hc.2 (hD c)
theorem RInv.skip {n : Nat} {gs : List Grp} {R : List Bool} {s : Nat} {D D' : Nat → Prop} (h : RInv n gs R s D) (h0 : 0 < s) (hr : R.getD s false = false) (hD : ∀ c, ¬ D' c) : RInv n gs R (s - 1) D' := by
  refine ⟨h.len, h.top, h.snd, fun t ht hR c hc hh hne hl => ?_⟩
  by_cases e : t = s
  · rw [e, hr] at hR; simp at hR
  · rcases hh with hh | hh
    · exact h.cmp t ht hR c hc (.inl (by omega)) hne hl
    · exact absurd hh.2 (hD c)
theorem RInv.done {n : Nat} {gs : List Grp} {R : List Bool} {s : Nat} {D D' : Nat → Prop} (h : RInv n gs R s D) (h0 : 0 < s) (hd : ∀ c, c < n → Low gs (setB n s) c → s ≠ 2 ^ c → D c) (hD : ∀ c, ¬ D' c) : RInv n gs R (s - 1) D' := by
  refine ⟨h.len, h.top, h.snd, fun t ht hR c hc hh hne hl => ?_⟩
  by_cases e : t = s
  · subst e; exact h.cmp t ht hR c hc (.inr ⟨rfl, hd c hc hl hne⟩) hne hl
  · rcases hh with hh | hh
    · exact h.cmp t ht hR c hc (.inl (by omega)) hne hl
    · exact absurd hh.2 (hD c)
theorem RInv.no {n : Nat} {gs : List Grp} {R : List Bool} {s : Nat} {D D' : Nat → Prop} (h : RInv n gs R s D) (hD : ∀ c, c < n → D' c → Low gs (setB n s) c → s ≠ 2 ^ c → D c) : RInv n gs R s D' := by
  refine ⟨h.len, h.top, h.snd, fun t ht hR c hc hh hne hl => ?_⟩
  rcases hh with hh | ⟨e, hh⟩
  · exact h.cmp t ht hR c hc (.inl hh) hne hl
  · subst e; exact h.cmp t ht hR c hc (.inr ⟨rfl, hD c hc hh hl hne⟩) hne hl
theorem RInv.yes {n : Nat} {gs : List Grp} {R : List Bool} {s j : Nat} {D D' : Nat → Prop} (h : RInv n gs R s D) (h7 : n ≤ 7) (hs : s < 2 ^ n) (hj : j < n) (hr : R.getD s false = true) (hl : Low gs (setB n s) j) (hD : ∀ c, D' c → D c ∨ c = j) : RInv n gs (R.set (s - 2 ^ j) true) s D' := by
  have hp := pow_128 n (by omega)
  have hb : s.testBit j = true := by have := hl.1; rwa [setB_nat hj] at this
  obtain ⟨m1, m2⟩ := mask_sub s (by omega) j (by omega) hb
  have hpos : 0 < 2 ^ j := Nat.two_pow_pos j
  have hlt : s - 2 ^ j < R.length := by rw [h.len]; omega
  refine ⟨by rw [List.length_set]; exact h.len, ?_, fun t ht hR h0 => ?_, fun t ht hR c hc hh hne2 hlo => ?_⟩
  · rw [set_getD hlt, h.top]; split <;> rfl
  · rw [set_getD hlt] at hR
    split at hR
    · next e =>
      subst e
      rw [setB_sub h7 hs hj hb]
      have hex : ∃ d < 7, (s - 2 ^ j).testBit d = true := by
        refine Classical.byContradiction fun g => h0 (mask_zero _ (by omega) fun d hd => ?_)
        cases hx : (s - 2 ^ j).testBit d with
        | false => rfl
        | true => exact absurd ⟨d, hd, hx⟩ g
      obtain ⟨d, hd, hdb⟩ := hex
      rw [m2 d hd, Bool.and_eq_true, decide_eq_true_iff] at hdb
      have hdn : d < n := by
        refine Classical.byContradiction fun g => ?_
        have hpd : 2 ^ n ≤ 2 ^ d := Nat.pow_le_pow_right (by omega) (by omega)
        rw [Nat.testBit_lt_two_pow (by omega)] at hdb
        simp at hdb
      exact Rch.step (d := (d : Int)) (h.snd s hs hr (by omega)) hl (by rw [setB_nat hdn]; exact hdb.1) (by omega)
    · exact h.snd t ht hR h0
  · have hne : ¬ s - 2 ^ j = t := by omega
    rw [set_getD hlt, if_neg hne] at hR
    rw [set_getD hlt]
    split
    · rfl
    · next e2 =>
      rcases hh with hh | ⟨e, hh⟩
      · exact h.cmp t ht hR c hc (.inl hh) hne2 hlo
      · subst e
        rcases hD c hh with hd | ec
        · exact h.cmp t ht hR c hc (.inr ⟨rfl, hd⟩) hne2 hlo
        · subst ec; exact absurd rfl e2
theorem RInv.all {n : Nat} {gs : List Grp} {R : List Bool} {D : Nat → Prop} (h : RInv n gs R 0 D) (h7 : n ≤ 7) {S : Int → Bool} (hS : Rch n gs S) : ∃ t, t < 2 ^ n ∧ setB n t = S ∧ R.getD t false = true := by
  have hp := pow_128 n (by omega)
  induction hS with
  | full => exact ⟨2 ^ n - 1, by omega, setB_full h7, h.top⟩
  | @step S x d _ hl hd hx ih =>
    obtain ⟨t, ht, e, hR⟩ := ih
    subst e
    have hx0 := hl.1
    rw [setB_at, decide_eq_true_iff] at hx0
    obtain ⟨c, rfl⟩ : ∃ c : Nat, x = c := ⟨x.toNat, by omega⟩
    have hc : c < n := by omega
    rw [Int.toNat_natCast] at hx0
    have hpos : 0 < 2 ^ c := Nat.two_pow_pos c
    obtain ⟨m1, m2⟩ := mask_sub t (by omega) c (by omega) hx0.2.2
    have hne2 : t ≠ 2 ^ c := fun e => by
      subst e
      rw [setB_one h7 hc] at hd
      exact hx (of_decide_eq_true hd)
    exact ⟨t - 2 ^ c, by omega, setB_sub h7 ht hc hx0.2.2, h.cmp t ht hR c hc (.inl (by omega)) hne2 hl⟩
/-- At the end the sets of one tell who can win. -/
theorem RInv.one {n : Nat} {gs : List Grp} {R : List Bool} {D : Nat → Prop} (h : RInv n gs R 0 D) (h7 : n ≤ 7) {c : Nat} (hc : c < n) : R.getD (2 ^ c) false = true ↔ Rch n gs (single c) := by
  have hp := pow_128 n (by omega)
  have hpc := hp.2.2 c hc
  have hpos : 0 < 2 ^ c := Nat.two_pow_pos c
  constructor
  · intro hR
    have := h.snd (2 ^ c) hpc hR (by omega)
    rwa [setB_one h7 hc] at this
  · intro hS
    obtain ⟨t, ht, e, hR⟩ := h.all h7 hS
    rw [← setB_one h7 hc] at e
    rw [← setB_inj h7 ht hpc e]
    exact hR
noncomputable def canB (n : Int) (gs : List Grp) (c : Int) : Bool := @decide (Rch n gs (single c)) (Classical.propDecidable _)
theorem canB_true {n : Int} {gs : List Grp} {c : Int} : canB n gs c = true ↔ Rch n gs (single c) := by unfold canB; exact @decide_eq_true_iff _ (Classical.propDecidable _)
/-- Those of the first k who can win. -/
noncomputable def canTo (n : Nat) (gs : List Grp) (k : Nat) : List Int := ((List.range k).map fun i : Nat => (i : Int)).filter (canB n gs)
noncomputable def possS (n : Nat) (gs : List Grp) : List Int := canTo n gs n
theorem canTo_yes {n : Nat} {gs : List Grp} {k : Nat} (h : Rch n gs (single k)) : canTo n gs (k + 1) = canTo n gs k ++ [(k : Int)] := by
  unfold canTo
  rw [List.range_succ, List.map_append, List.filter_append]
  simp [canB_true.2 h]
theorem canTo_no {n : Nat} {gs : List Grp} {k : Nat} (h : ¬ Rch n gs (single k)) : canTo n gs (k + 1) = canTo n gs k := by
  unfold canTo
  rw [List.range_succ, List.map_append, List.filter_append]
  have : canB n gs k = false := by
    cases g : canB n gs k with
    | false => rfl
    | true => exact absurd (canB_true.1 g) h
  simp [this]
theorem canTo_len (n : Nat) (gs : List Grp) (k : Nat) : (canTo n gs k).length ≤ k := by
  unfold canTo
  exact Nat.le_trans (List.length_filter_le _ _) (by simp)
theorem mem_poss {n : Nat} {gs : List Grp} {c : Int} : c ∈ possS n gs ↔ 0 ≤ c ∧ c < n ∧ Rch n gs (single c) := by
  unfold possS canTo
  rw [List.mem_filter, canB_true, List.mem_map]
  constructor
  · rintro ⟨⟨i, hi, rfl⟩, h⟩
    have := List.mem_range.1 hi
    exact ⟨by omega, by omega, h⟩
  · rintro ⟨h0, h1, h⟩
    exact ⟨⟨c.toNat, List.mem_range.2 (by omega), by omega⟩, h⟩
theorem poss_sorted (n : Nat) (gs : List Grp) : (possS n gs).Pairwise (· < ·) := (range_sorted n).filter _
theorem poss_nil_gs (n : Nat) (gs : List Grp) : (possS n gs).Nodup := sorted_nodup (poss_sorted n gs)

end Go.Proofs.Nums
