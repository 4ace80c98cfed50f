/- Contracts and plain facts, part 15: Ir, J3, R10b, R11b, R12c, WN, WE, WB, WB2. No condition beyond those that each theorem states. -/
import Derived.Test.YtbnhgmikegdppaaGreatQN
import Derived.BigQuiet
import Derived.Deep.DeepCutAuto
/- irv.Possible: the walk. -/
namespace Go.Proofs.YtbnhgmikegdppaaGreat
open Go.RowKit Go.Proofs.Kit Go.Proofs.Nums

/-- A row elsewhere stays. -/
theorem ints_off {w : World} {v : Value} {l : List Int} {b o : Nat} {x : Value} (h : IntsAt w v l) (hne : ∀ k, v.ownBlock = some k → k ≠ b) : IntsAt (w.setCell ⟨b, o, none⟩ x) v l :=
  (RowAt.on_own h) _ fun k hk => Below.heap_setCell w ⟨b, o, none⟩ x k (hne k hk)

theorem wrap_bit : ∀ k < 7, wrap64 (2 ^ k) = 2 ^ k := by decide +kernel

set_option maxRecDepth 100000 in
set_option maxHeartbeats 16000000 in
theorem possible_c {vg : Value} {gs : List Grp} {n : Nat} {w : World} (hg : PileAt w vg gs) (h1 : 1 ≤ n) (h7 : n ≤ 7) (hp : PileP n gs) :
    Calls Tryz.prog 19 #[.int .i64 n, vg] w fun e w' => ∃ v', e = .returned v' ∧ IntsAt w' v' (possS n gs) ∧ Fresh w.heap.size v' ∧ Below w.heap.size w w' := by
  have PV := pvalid_c hg n
  rw [show okS n gs = true by unfold okS; rw [pile_true.2 hp]; simp; omega] at PV
  have PV := Lib.hid PV
  have HG := Lib.hid hg
  have HP := Lib.hid hp
  have HP7 := Lib.hid (hp.seven (by omega))
  obtain ⟨pg, ng, cg, rfl⟩ : ∃ p n c, vg = .slice p n c := by obtain ⟨p, c, e⟩ := hg.shp; exact ⟨_, _, _, e⟩
  obtain ⟨N, hN⟩ : ∃ N, 2 ^ n = N := ⟨_, rfl⟩
  have hNb : 2 ≤ N ∧ N ≤ 128 ∧ wrap64 (2 ^ n) = (N : Int) := by
    have : n = 1 ∨ n = 2 ∨ n = 3 ∨ n = 4 ∨ n = 5 ∨ n = 6 ∨ n = 7 := by omega
    rcases this with rfl | rfl | rfl | rfl | rfl | rfl | rfl <;> (subst hN; refine ⟨by decide, by decide, ?_⟩; unfold wrap64; rfl)
  obtain ⟨hN2, hN7, hNw⟩ := hNb
  have HNe := Lib.hid hN
  have HNw := Lib.hid hNw
  have hNm : IntKind.i64.wrap ((N : Int) - 1) = (N : Int) - 1 := w64 (by omega) (by omega)
  obtain ⟨F, hF⟩ : ∃ F : Nat, (N : Int) - 1 = F := ⟨N - 1, by omega⟩
  have hFl : F < N := by omega
  have hFz : (F : Int) < (N : Int) := by omega
  clear hg hp hN
  go_enter Tryz.func19, Tryz.ntmps19
  go_wp2_with (first
    | (go_at_call 44; ((with_reducible refine PV.out.mono ?_); rintro _ w1 ⟨rfl, hb1⟩))
    | (at_make; go_must (refine make_any erB rfl rfl (kl := .i64) (kc := .i64) (L := (N : Int)) (congrArg (Value.int .i64) HNw.out) (congrArg (Value.int .i64) HNw.out) (by omega) (by omega) (by omega) ?_); intro w2 hown2 hb2; rw [show ((N : Int)).toNat = N by omega] at hown2; have own2 := OwnBool.made hown2; have cF := own2.cell hFl; have fF := own2.free F; rw [show ((N : Int)).toNat = N by omega]))
  obtain ⟨G, hG⟩ : ∃ G, w1.heap.size = G := ⟨_, rfl⟩
  have hGw : w.heap.size ≤ G := by have := hb1.size; omega
  rw [hG] at own2 hb2 ⊢
  have hput := own2.put F true
  have hst := RInv.start (n := n) (gs := gs) (D := fun c => c < 0) h7 (fun c h => absurd h (Nat.not_lt_zero c))
  rw [HNe.out, show N - 1 = F by omega] at hst
  have HST := Lib.hid hst
  obtain ⟨R0, hR0⟩ : ∃ R, (List.replicate N false).set F true = R := ⟨_, rfl⟩
  rw [hR0] at hput HST
  have hB0 := hb2.trans hput.2
  have hO0 := Lib.hid hput.1
  have hGe := Lib.hid hG
  have HWW : Hid (∀ wq, Below G w1 wq → Below w.heap.size w wq) := Lib.hid (fun wq h => hb1.trans (h.mono hGw))
  clear hput hst hR0 own2 cF fF hG
  simp only [HNw.out]
  go_loopw [6] (fun sv wr => ∃ s : Nat, ∃ R, s < N ∧ sv = .int .i64 s ∧ OwnBool wr G G N R ∧ Below G w1 wr ∧ Hid (RInv n gs R s (fun c => c < 0))) (fun sv _ => (intOf sv).toNat)
  case atStart => exact ⟨F, R0, hFl, rfl, hO0.out, hB0, HST⟩
  case round =>
    obtain ⟨s, R, hs, rfl, hO, hbel, hI⟩ := hrel
    by_cases h0 : 0 < s
    · have h0z : (0 : Int) < (s : Int) := by omega
      have hsz : (s : Int) < (N : Int) := by omega
      have hcell := hO.cell hs
      have hsm : IntKind.i64.wrap ((s : Int) - 1) = (s : Int) - 1 := w64 (by omega) (by omega)
      cases hr : R.getD s false
      · rw [hr] at hcell
        have HX := Lib.hid (hI.out.skip (D' := fun c => c < 0) h0 hr (fun c h => absurd h (Nat.not_lt_zero c)))
        clear hr
        go_wp2_with fail
        go_roundw
        case rel => exact ⟨s - 1, R, by omega, by go_num, hO, hbel, HX⟩
        case measure => simp [intOf] <;> omega
      · rw [hr] at hcell
        have HRs := Lib.hid hr
        clear hr
        go_wp2_with (at_make; go_must (refine make_any erB rfl rfl rfl rfl (by omega) (by omega) (by omega) ?_); intro w4 hown4 hb4; rw [show ((n : Int)).toNat = n by omega] at hown4 ⊢; have own4 := OwnBool.made hown4)
        obtain ⟨G2, hG2⟩ : ∃ G, wr.heap.size = G := ⟨_, rfl⟩
        have HG2 := Lib.hid hG2
        have hw4 := Lib.hid hb4
        rw [hG2] at own4 hb4 ⊢
        have own4 := Lib.hid own4
        clear hown4 hG2
        go_loopw [44] (fun iv wq => ∃ k : Nat, k ≤ n ∧ iv = .int .i64 k ∧ OwnBool wq G2 G2 n (bitsTo n s k) ∧ Below G2 wr wq) (fun iv _ => n - (intOf iv).toNat)
        case atStart => exact ⟨0, by omega, rfl, by rw [bitsTo_zero]; exact own4.out, hb4⟩
        case round =>
          obtain ⟨k, hk, rfl, hO4, hbel4⟩ := hrel
          by_cases hlt : k < n
          · have hltz : (k : Int) < (n : Int) := by omega
            have hc4 := hO4.cell hlt
            have hf4 := hO4.free k
            have hp4 := hO4.put k (s.testBit k)
            rw [bitsTo_step hlt] at hp4
            have hbit := and_bit s (by omega) k (by omega)
            rw [← hbit] at hp4
            have hp4 := Lib.hid hp4
            clear hbit
            go_wp2_with fail
            go_roundw
            case rel => exact ⟨k + 1, by omega, by go_num, hp4.out.1, hbel4.trans hp4.out.2⟩
            case measure => simp [intOf] <;> omega
          · obtain rfl : n = k := by omega
            have hbq : Below G w1 wr := hbel.trans (hbel4.mono (by rw [← HG2.out, ← hGe.out]; exact hbel.size))
            have hwq := HWW.out wr hbq
            rw [bitsTo_all] at hO4
            have FI : Hid (Calls Tryz.prog 24 #[.slice pg ng cg, .slice (some ⟨G2, 0, none⟩) n n] wr fun e w' => ∃ p c, e = .returned (.tuple #[.slice p n c, .int .i64 (restS gs (remS n s))]) ∧ IntsAt w' (.slice p n c) (votesS gs (remS n s)) ∧ Fresh wr.heap.size (.slice p n c) ∧ Below wr.heap.size wr w') := Lib.hid (by
              refine (first_c (HG.out.keep hwq) hO4.read HP7.out (by rw [remS_len]; exact h1) (by rw [remS_len]; exact h7)).mono ?_
              rintro e w' ⟨v', rfl, g1, g2, g3⟩
              obtain ⟨p, c, rfl⟩ := g1.shape
              rw [votes_len, remS_len] at g1 g2 ⊢
              exact ⟨p, c, rfl, g1, g2, g3⟩)
            have hO4 := Lib.hid hO4
            go_wp2_with (go_at_call 24; ((with_reducible refine FI.out.mono ?_); rintro _ w6 ⟨p6, c6, rfl, h6, hf6, hb6⟩))
            obtain ⟨V, hV⟩ : ∃ V, votesS gs (remS n s) = V := ⟨_, rfl⟩
            obtain ⟨L, hL⟩ : ∃ L, remS n s = L := ⟨_, rfl⟩
            have hG2w := HG2.out
            have hGs2 : G < G2 := by rw [← HG2.out]; exact (hO.2.lt G rfl).2
            have hsw := hb6.size
            have hs4 := (hO4.out.2.lt G2 rfl).2
            have hv6 : ∀ k, (Value.slice p6 n c6).ownBlock = some k → k ≠ G := fun k e => by have := hf6 k e; omega
            have hO6 := hO4.out.keep hb6
            have hB6 : Below G w1 w6 := hbq.trans (hb6.mono (by omega))
            have hVl : V.length = n := by rw [← hV, votes_len, remS_len]
            have hOG := (hO.keep (by rw [HG2.out]; exact hbel4)).keep hb6
            rw [hV] at h6
            rw [hL] at hO6
            have HI := Lib.hid (show RInv n gs R s (fun c => c < 0) ∧ R.getD s false = true from ⟨hI.out, HRs.out⟩)
            have HVL := Lib.hid hVl
            have HLW : Hid (∀ c, c < n → (leastB V L c n = true ↔ Low gs (setB n s) c)) := Lib.hid (fun c hc => by
              have := least_low (gs := gs) (rem := remS n s) (c := c) (by rw [remS_len]; exact hc)
              rw [remS_len, hV, hL] at this
              unfold setB
              rw [hL]
              exact this)
            have HHL : Hid (∀ c, L.getD c false = true → c < n → s.testBit c = true) := Lib.hid (fun c h hc => by rw [← hL, remS_get hc] at h; exact h)
            clear hO hO4 hbel4 hV hL hVl own4 hb4 hwq hbq hbel hcell hI HRs
            go_loopw [64] (fun iv wq => ∃ c : Nat, ∃ R', c ≤ n ∧ iv = .int .i64 c ∧ OwnBool wq G G N R' ∧ OwnBool wq G2 G2 n L ∧ IntsAt wq (.slice p6 n c6) V ∧ Below G w1 wq ∧ Hid (RInv n gs R' s (fun d => d < c) ∧ R'.getD s false = true)) (fun iv _ => n - (intOf iv).toNat)
            case atStart => exact ⟨0, R, by omega, rfl, hOG, hO6, h6, hB6, HI⟩
            case round =>
              obtain ⟨c, R', hc, rfl, hOG, hO6, h6, hB6, HI⟩ := hrel
              by_cases hlt : c < n
              · have hltz : (c : Int) < (n : Int) := by omega
                have hcc := hO6.cell hlt
                obtain ⟨b6, o6, e6, hcap1, hcap2, hvc⟩ := h6.cellAt c (by rw [HVL.out]; exact hlt)
                subst e6
                have HVL2 := HVL.out
                rw [HVL2] at hcap1
                obtain ⟨x, hx⟩ : ∃ x, V.getD c 0 = x := ⟨_, rfl⟩
                rw [hx] at hvc
                have HXc := Lib.hid hx
                have h6 := Lib.hid h6
                have hO6 := Lib.hid hO6
                have hOG := Lib.hid hOG
                clear hx HVL2
                go_wp2_with fail
                go_loopw [12, 73] (fun lv iv wz => ∃ d : Nat, d ≤ n ∧ iv = .int .i64 d ∧ lv = .bool (leastB V L c d) ∧ Below wr.heap.size wr wz) (fun _ iv _ => n - (intOf iv).toNat)
                case atStart => exact ⟨0, by omega, rfl, rfl, Below.refl _ _⟩
                case round =>
                  obtain ⟨d, hd, rfl, rfl, hbz⟩ := hrel
                  by_cases hdl : d < n
                  · have hdz : (d : Int) < (n : Int) := by omega
                    have hcd := (hO6.out.keep hbz).cell hdl
                    obtain ⟨b7, o7, e7, _, _, hvd⟩ := (h6.out.keep hbz).cellAt d (by rw [HVL.out]; exact hdl)
                    simp only [Option.some.injEq, Addr.mk.injEq, and_true] at e7
                    obtain ⟨rfl, rfl⟩ := e7
                    have hvcz := cell_keep hbz hvc
                    have hst : leastB V L c (d + 1) = (leastB V L c d && (!(L.getD d false) || decide (V.getD c 0 ≤ V.getD d 0))) := rfl
                    rw [HXc.out] at hst
                    obtain ⟨y, hy⟩ : ∃ y, V.getD d 0 = y := ⟨_, rfl⟩
                    obtain ⟨r, hr⟩ : ∃ y, L.getD d false = y := ⟨_, rfl⟩
                    rw [hr] at hst hcd
                    rw [hy] at hst hvd
                    obtain ⟨l, hl⟩ : ∃ l, leastB V L c d = l := ⟨_, rfl⟩
                    rw [hl] at hst ⊢
                    clear hr hy hl
                    cases l
                    · have HST2 : Hid (leastB V L c (d + 1) = false) := Lib.hid (by rw [hst]; rfl)
                      clear hst
                      go_wp2_with fail
                      go_quiet (fail)
                      all_goals
                        go_wp2_with fail
                        go_roundw
                        case rel => exact ⟨d + 1, by omega, by go_num, by rw [HST2.out], below_drewN hbz _⟩
                        case measure => simp [intOf] <;> omega
                    · cases r
                      · have HST2 : Hid (leastB V L c (d + 1) = true) := Lib.hid (by rw [hst]; rfl)
                        clear hst
                        go_wp2_with fail
                        go_quiet (fail)
                        all_goals
                          go_wp2_with fail
                          go_roundw
                          case rel => exact ⟨d + 1, by omega, by go_num, by rw [HST2.out], below_drewN hbz _⟩
                          case measure => simp [intOf] <;> omega
                      · obtain ⟨z, hz⟩ : ∃ z, decide (x ≤ y) = z := ⟨_, rfl⟩
                        have HST2 : Hid (leastB V L c (d + 1) = z) := Lib.hid (by rw [hst, ← hz]; rfl)
                        clear hst
                        go_wp2_with fail
                        go_quiet (fail)
                        all_goals
                          go_wp2_with fail
                          go_roundw
                          case rel => exact ⟨d + 1, by omega, by go_num, by rw [HST2.out], below_drewN hbz _⟩
                          case measure => simp [intOf] <;> omega
                  · obtain rfl : n = d := by omega
                    have hsz := hbz.size
                    have hOGz := hOG.out.keep hbz
                    have hO6z := Lib.hid (hO6.out.keep hbz)
                    have h6z := Lib.hid (h6.out.keep hbz)
                    have hBz := hB6.trans (hbz.mono (by rw [← hGe.out]; exact hB6.size))
                    cases hb : leastB V L c n
                    · have HN : Hid (RInv n gs R' s (fun d => d < c + 1) ∧ R'.getD s false = true) := Lib.hid ⟨HI.out.1.no fun e he hlo hl _ => by
                        by_cases hec : e = c
                        · subst hec
                          have := (HLW.out e he).2 hl
                          rw [hb] at this
                          simp at this
                        · omega, HI.out.2⟩
                      clear hb
                      go_wp2_with fail
                      go_roundw
                      case rel => exact ⟨c + 1, R', by omega, by go_num, hOGz, hO6z.out, h6z.out, hBz, HN⟩
                      case measure => simp [intOf] <;> omega
                    · have hlow := (HLW.out c hlt).1 hb
                      have hsb : s.testBit c = true := by have := hlow.1; rwa [setB_nat hlt] at this
                      have hms := mask_sub s (by omega) c (by omega) hsb
                      have hand := andnot_bit s (by omega) c (by omega) hsb
                      have hpos : 0 < 2 ^ c := Nat.two_pow_pos c
                      obtain ⟨u, hu⟩ : ∃ u, s - 2 ^ c = u := ⟨_, rfl⟩
                      have hus : u < s := by omega
                      have hy := HI.out.1.yes h7 (by rw [HNe.out]; exact hs) hlt HI.out.2 hlow (D' := fun d => d < c + 1) (fun d hd => by omega)
                      rw [hu] at hy hand
                      have hgs : (R'.set u true).getD s false = true := by
                        rw [set_getD (by rw [hOGz.1]; omega), if_neg (by omega)]
                        exact HI.out.2
                      have HN := Lib.hid (show RInv n gs (R'.set u true) s (fun d => d < c + 1) ∧ (R'.set u true).getD s false = true from ⟨hy, hgs⟩)
                      have hw7 : c < 7 := by omega
                      have hpw : wrap64 (2 ^ c) = 2 ^ c := wrap_bit c hw7
                      rw [← hpw] at hand
                      have hcu := hOGz.cell (j := u) (by omega)
                      have hfu := hOGz.free u
                      have hpu := Lib.hid (hOGz.put u true)
                      have huz : (u : Int) < (N : Int) := by omega
                      clear hb hlow hsb hms hu hy hgs hpw hOGz
                      go_wp2_with fail
                      go_roundw
                      case rel => exact ⟨c + 1, R'.set u true, by omega, by go_num, hpu.out.1, hO6z.out.other (by omega) _ _, ints_off h6z.out hv6, hBz.trans hpu.out.2, HN⟩
                      case measure => simp [intOf] <;> omega
              · obtain rfl : n = c := by omega
                have HD := Lib.hid (HI.out.1.done (D' := fun c => c < 0) h0 (fun e he _ _ => he) (fun c h => absurd h (Nat.not_lt_zero c)))
                go_wp2_with fail
                go_roundw
                case rel => exact ⟨s - 1, R', by omega, by go_num, hOG, hB6, HD⟩
                case measure => simp [intOf] <;> omega
    · have hs0 : s = 0 := by omega
      subst hs0
      have HP := Lib.hid (fun c (hc : c < n) => hI.out.one h7 hc)
      have hbw := HWW.out wr hbel
      clear hI
      go_wp2_with fail
      go_loopw [14, 105] (fun ov iv wz => ∃ k m : Nat, k ≤ n ∧ iv = .int .i64 k ∧ wz.ownsRow wr.heap.size 3 1 ov m ((canTo n gs k).map (Value.int .i64)) ∧ Below wr.heap.size wr wz) (fun _ iv _ => n - (intOf iv).toNat)
      case atStart => exact ⟨0, 0, by omega, rfl, (World.ownsRow_nil _ _ _ _ : wr.ownsRow wr.heap.size 3 1 (.slice none 0 0) 0 []), Below.refl _ _⟩
      case round =>
        obtain ⟨k, m, hk, rfl, hown, hbz⟩ := hrel
        by_cases hlt : k < n
        · have hltz : (k : Int) < (n : Int) := by omega
          have hm2 : m ≤ k := by
            have h1 := hown.1
            have h2 := canTo_len n gs k
            rw [List.length_map] at h1
            omega
          have hpw : wrap64 (2 ^ k) = 2 ^ k := wrap_bit k (by omega)
          obtain ⟨u, hu⟩ : ∃ u, 2 ^ k = u := ⟨_, rfl⟩
          have huN : u < N := by rw [← hu, ← HNe.out]; exact (pow_128 n (by omega)).2.2 k hlt
          have hpu : wrap64 (2 ^ k) = (u : Int) := by rw [hpw, ← hu]; simp
          have hcu := (hO.keep hbz).cell huN
          have huz : (u : Int) < (N : Int) := by omega
          have hiff := HP.out k hlt
          rw [hu] at hiff
          clear hpw hu
          cases hb : R.getD u false
          · rw [hb] at hcu
            have HR := Lib.hid (canTo_no (n := n) (gs := gs) (k := k) (fun h => by have := hiff.2 h; rw [hb] at this; simp at this))
            clear hb hiff
            go_wp2_with fail
            go_roundw
            case rel => exact ⟨k + 1, m, by omega, by go_num, by rw [HR.out]; exact hown, hbz⟩
            case measure => simp [intOf] <;> omega
          · rw [hb] at hcu
            have HR := Lib.hid (canTo_yes (n := n) (gs := gs) (k := k) (hiff.1 hb))
            clear hb hiff
            go_wp2_with (at_builtin; go_must (refine append_one erI rfl rfl hown rfl rfl rfl (by simp [Value.oneCell']) (by omega) (by omega) hbz.size ?_); intro v' w1 hown1 _ hb1 hne1)
            go_roundw
            case rel =>
              refine ⟨v', _, _, ⟨k + 1, by omega, by go_num, ⟨m + 1, ?_⟩, hbz.trans hb1⟩, rfl, rfl, rfl⟩
              rw [HR.out, List.map_append]
              exact hown1
            case measure => simp [intOf] <;> omega
        · obtain rfl : n = k := by omega
          have HI : Hid (IntsAt wr u14 (possS n gs)) := Lib.hid (ints_owned hown)
          have HF := Lib.hid ((Fresh.owned hown).mono hbw.size)
          clear hown
          go_wp2_with fail
          go_ret
          exact ⟨_, rfl, HI.out, HF.out, bel2' hbw hbz⟩

end Go.Proofs.YtbnhgmikegdppaaGreat

/- The sanity check Awake: the walk. -/
namespace Go.Proofs.YtbnhgmikegdppaaGreat
open Go.RowKit Go.Proofs.Kit Go.Proofs.Nums

theorem row_lit (w : World) (l : List Int) (hl : l.length ≤ 1000) : IntsAt (w.alloc (.cells (l.map (Value.int .i64)).toArray 3)) (.slice (some ⟨w.heap.size, 0, none⟩) l.length l.length) l := by
  have h := World.ownsRow_lit (base := w.heap.size) (e := 3) (size := 1) w (l.map (Value.int .i64)).toArray l.length (Nat.le_refl _) (by unfold maxLen; omega) (by simp)
  have := RowAt.owned h
  simpa [IntsAt] using this
theorem grid_of {W : World} {v : Value} {us : List Value} {L : List (List Int)} (hr : RowAt W v us) (hl : us.length = L.length) (h : ∀ (i : Nat) u r, us[i]? = some u → L[i]? = some r → IntsAt W u r) : GridAt W v L := by
  obtain ⟨p, cap, e, h1, h2, h3, h4⟩ := hr
  refine ⟨us.map fun u => [u], p, cap, by rw [e, hl], by omega, h2, h3, by rw [List.length_map, hl], fun c hc => ?_, fun q hq i c j u hi hj => ?_, fun i c r hi hr => ?_⟩
  · obtain ⟨u, _, rfl⟩ := List.mem_map.1 hc
    rfl
  · rw [List.getElem?_map] at hi
    cases hu : us[i]? with
    | none => rw [hu] at hi; simp at hi
    | some u' =>
      rw [hu] at hi
      simp only [Option.map_some, Option.some.injEq] at hi
      subst hi
      have hj0 : j = 0 := by
        cases j with
        | zero => rfl
        | succ j => simp at hj
      subst hj0
      simp only [List.getElem?_cons_zero, Option.some.injEq] at hj
      subst hj
      rw [Nat.mul_one, Nat.add_zero]
      exact h4 q hq i _ hu
  · rw [List.getElem?_map] at hi
    cases hu : us[i]? with
    | none => rw [hu] at hi; simp at hi
    | some u' =>
      rw [hu] at hi
      simp only [Option.map_some, Option.some.injEq] at hi
      exact ⟨u', hi.symm, h i u' r hu hr⟩
theorem below_al {w w' : World} (h : Below w.heap.size w w') (o : Obj) : Below w.heap.size w (w'.alloc o) := h.alloc h.size o

theorem aw_grid (w : World) : GridAt ((((((w.alloc (.cells #[.int .i64 0, .int .i64 1] 3)).alloc (.cells #[.int .i64 0, .int .i64 1] 3)).alloc (.cells #[.int .i64 1] 3)).alloc (.cells #[.int .i64 1] 3)).alloc (.cells #[.int .i64 2, .int .i64 1] 3)).alloc (.cells #[.slice (some ⟨w.heap.size, 0, none⟩) 2 2, .slice (some ⟨w.heap.size + 1, 0, none⟩) 2 2, .slice (some ⟨w.heap.size + 2, 0, none⟩) 1 1, .slice (some ⟨w.heap.size + 3, 0, none⟩) 1 1, .slice (some ⟨w.heap.size + 4, 0, none⟩) 2 2] 26)) (.slice (some ⟨w.heap.size + 5, 0, none⟩) 5 5) awB := by
  have r0 := row_lit w [0, 1] (by decide)
  obtain ⟨w1, e1⟩ : ∃ w1, w.alloc (.cells ([(0 : Int), 1].map (Value.int .i64)).toArray 3) = w1 := ⟨_, rfl⟩
  have s1 : w1.heap.size = w.heap.size + 1 := by rw [← e1]; simp
  have r1 := row_lit w1 [0, 1] (by decide)
  obtain ⟨w2, e2⟩ : ∃ w2, w1.alloc (.cells ([(0 : Int), 1].map (Value.int .i64)).toArray 3) = w2 := ⟨_, rfl⟩
  have s2 : w2.heap.size = w.heap.size + 2 := by rw [← e2]; simp [s1]
  have r2 := row_lit w2 [1] (by decide)
  obtain ⟨w3, e3⟩ : ∃ w3, w2.alloc (.cells ([(1 : Int)].map (Value.int .i64)).toArray 3) = w3 := ⟨_, rfl⟩
  have s3 : w3.heap.size = w.heap.size + 3 := by rw [← e3]; simp [s2]
  have r3 := row_lit w3 [1] (by decide)
  obtain ⟨w4, e4⟩ : ∃ w4, w3.alloc (.cells ([(1 : Int)].map (Value.int .i64)).toArray 3) = w4 := ⟨_, rfl⟩
  have s4 : w4.heap.size = w.heap.size + 4 := by rw [← e4]; simp [s3]
  have r4 := row_lit w4 [2, 1] (by decide)
  obtain ⟨w5, e5⟩ : ∃ w5, w4.alloc (.cells ([(2 : Int), 1].map (Value.int .i64)).toArray 3) = w5 := ⟨_, rfl⟩
  have s5 : w5.heap.size = w.heap.size + 5 := by rw [← e5]; simp [s4]
  rw [e1] at r0
  rw [e2, s1] at r1
  rw [e3, s2] at r2
  rw [e4, s3] at r3
  rw [e5, s4] at r4
  have b12 : Below w1.heap.size w1 w2 := by rw [← e2]; exact below_al (Below.refl _ _) _
  have b23 : Below w2.heap.size w2 w3 := by rw [← e3]; exact below_al (Below.refl _ _) _
  have b34 : Below w3.heap.size w3 w4 := by rw [← e4]; exact below_al (Below.refl _ _) _
  have b45 : Below w4.heap.size w4 w5 := by rw [← e5]; exact below_al (Below.refl _ _) _
  show GridAt (((((((w.alloc (.cells ([(0 : Int), 1].map (Value.int .i64)).toArray 3)).alloc (.cells ([(0 : Int), 1].map (Value.int .i64)).toArray 3)).alloc (.cells ([(1 : Int)].map (Value.int .i64)).toArray 3)).alloc (.cells ([(1 : Int)].map (Value.int .i64)).toArray 3)).alloc (.cells ([(2 : Int), 1].map (Value.int .i64)).toArray 3)).alloc _)) _ awB
  rw [e1, e2, e3, e4, e5]
  have hrow := RowAt.owned (World.ownsRow_lit (base := w5.heap.size) (e := 26) (size := 1) w5 #[.slice (some ⟨w.heap.size, 0, none⟩) 2 2, .slice (some ⟨w.heap.size + 1, 0, none⟩) 2 2, .slice (some ⟨w.heap.size + 2, 0, none⟩) 1 1, .slice (some ⟨w.heap.size + 3, 0, none⟩) 1 1, .slice (some ⟨w.heap.size + 4, 0, none⟩) 2 2] 5 (Nat.le_refl _) (by unfold maxLen; omega) rfl)
  rw [s5] at hrow
  have b56 : Below w5.heap.size w5 (w5.alloc (.cells #[.slice (some ⟨w.heap.size, 0, none⟩) 2 2, .slice (some ⟨w.heap.size + 1, 0, none⟩) 2 2, .slice (some ⟨w.heap.size + 2, 0, none⟩) 1 1, .slice (some ⟨w.heap.size + 3, 0, none⟩) 1 1, .slice (some ⟨w.heap.size + 4, 0, none⟩) 2 2] 26)) := below_al (Below.refl _ _) _
  have q0 := ((((r0.keep b12).keep b23).keep b34).keep b45).keep b56
  have q1 := (((r1.keep b23).keep b34).keep b45).keep b56
  have q2 := ((r2.keep b34).keep b45).keep b56
  have q3 := (r3.keep b45).keep b56
  have q4 := r4.keep b56
  refine grid_of hrow rfl fun i u r hu hr => ?_
  match i with
  | 0 => simp [awB] at hu hr; subst hu; subst hr; exact q0
  | 1 => simp [awB] at hu hr; subst hu; subst hr; exact q1
  | 2 => simp [awB] at hu hr; subst hu; subst hr; exact q2
  | 3 => simp [awB] at hu hr; subst hu; subst hr; exact q3
  | 4 => simp [awB] at hu hr; subst hu; subst hr; exact q4
  | n + 5 => simp [awB] at hr

theorem okA {p : Option Addr} {n c : Nat} {ties : Int} {gs : List Grp} {lots : List Int} (h1 : 1 ≤ n) (h7 : n ≤ 7) (t1 : 1 ≤ ties) (t3 : ties ≤ 3) (hg : PileP n gs) (hl : Lots n lots) : OkC (conM p n c ties) gs lots :=
  ⟨rfl, h1, h7, rfl, rfl, t1, t3, hg, hl⟩

set_option maxRecDepth 100000 in
set_option maxHeartbeats 8000000 in
theorem awake26 (w : World) : Calls Tryz.prog 7 #[] w fun e w' => e = .returned (.bool true) ∧ Below w.heap.size w w' := by
  have MK : Hid (∀ wq v, GridAt wq v awB → Calls Tryz.prog 18 #[.int .i64 3, v] wq fun e w' => ∃ v', e = .returned (.tuple #[v', .int .i64 0]) ∧ PileAt w' v' awG ∧ Below wq.heap.size wq w') := Lib.hid (fun wq v h => rmake_c (n := 3) h (by omega) (by omega) awB_bal (by decide))
  have CO : Hid (∀ wq, Calls Tryz.prog 9 #[.int .i64 0, .int .i64 3, .int .i64 0, .int .i64 0, .int .i64 0] wq fun e w' => ∃ p c, e = .returned (conC (conM p 3 c 1)) ∧ Below wq.heap.size wq w') := Lib.hid (fun wq => contest_c 3 (by omega) 0 wq)
  have AG := Lib.hid (aw_grid w)
  have CT : Hid (∀ wq p c vg vl, PileAt wq vg awG → IntsAt wq vl [0, 1, 2] → Calls Tryz.prog 12 #[conC (conM p 3 c 1), vg, vl] wq fun e w' => ∃ pr cr pw cw, e = .returned (.tuple #[.agg #[.int .i64 1, .int .i64 1, .int .i64 0, .int .i64 3, .slice pr 2 cr, .slice pw 1 cw], .int .i64 0]) ∧ IntsAt w' (.slice pw 1 cw) [1] ∧ Below wq.heap.size wq w') := Lib.hid (fun wq p c vg vl hg hl => by
    refine (count_c (C := conM p 3 c 1) hg hl (okA (by omega) (by omega) (by omega) (by omega) awG_pile aw_lots)).mono ?_
    rintro e w' ⟨vr, vw, x, rfl, h1, h2, h3, h4⟩
    have h1 := h1.now
    have h2 := h2.now
    have hc := awG_count
    obtain ⟨r, hr, hx⟩ := h3.out
    have e1 : countS false (brkS (conM p 3 c 1).ties [0, 1, 2]) awG (conM p 3 c 1).n (List.replicate (conM p 3 c 1).n true) [] = countS false (brkS 1 [0, 1, 2]) awG 3 (List.replicate 3 true) [] := rfl
    rw [e1] at h1 hr
    obtain ⟨R, hR⟩ : ∃ R, countS false (brkS 1 [0, 1, 2]) awG 3 (List.replicate 3 true) [] = R := ⟨_, rfl⟩
    rw [hR] at h1 hr hc
    have hl2 : R.length = 2 := by have := congrArg List.length hc; simpa using this
    obtain ⟨pr, cr, e2, _, _⟩ := h1.shape
    rw [hl2] at e2
    subst e2
    have hx1 : x = 1 := by
      match R, hl2, hc, hr with
      | [a, b], _, hc, hr =>
        simp at hc hr
        rw [← hr, hc.2] at hx
        simpa using hx.symm
    subst hx1
    obtain ⟨pw, cw, rfl⟩ := h2.shape
    exact ⟨pr, cr, pw, cw, rfl, h2, h4⟩)
  have OD : Hid (∀ wq p c vg vl, PileAt wq vg awG → IntsAt wq vl [0, 1, 2] → Calls Tryz.prog 15 #[conC (conM p 3 c 1), vg, vl] wq fun e w' => ∃ v', e = .returned (.tuple #[v', .int .i64 0]) ∧ IntsAt w' v' [2, 0, 1] ∧ Below wq.heap.size wq w') := Lib.hid (fun wq p c vg vl hg hl => by
    refine (order_c (C := conM p 3 c 1) hg hl (okA (by omega) (by omega) (by omega) (by omega) awG_pile aw_lots)).mono ?_
    rintro e w' ⟨v', rfl, h1, _, h3⟩
    have e1 : orderS (brkS (conM p 3 c 1).ties [0, 1, 2]) awG (conM p 3 c 1).n (List.replicate (conM p 3 c 1).n true) [] = orderS (brkS 1 [0, 1, 2]) awG 3 (List.replicate 3 true) [] := rfl
    rw [e1, awG_order] at h1
    exact ⟨v', rfl, h1, h3⟩)
  have PO : Hid (∀ wq vg, PileAt wq vg awG → Calls Tryz.prog 19 #[.int .i64 3, vg] wq fun e w' => ∃ v', e = .returned v' ∧ IntsAt w' v' [1] ∧ Below wq.heap.size wq w') := Lib.hid (fun wq vg hg => by
    refine (possible_c (n := 3) hg (by omega) (by omega) awG_pile).mono ?_
    rintro e w' ⟨v', rfl, h1, _, h3⟩
    rw [aw_poss] at h1
    exact ⟨v', rfl, h1, h3⟩)
  have EQ : Hid (∀ wq va vb (l : List Int), IntsAt wq va l → IntsAt wq vb l → Calls Tryz.prog 17 #[va, vb] wq fun e w' => e = .returned (.bool true) ∧ Below wq.heap.size wq w') := Lib.hid (fun wq va vb l h1 h2 => by
    have := eq_c h1 h2
    rwa [decide_eq_true rfl] at this)
  unfold conC conM conV nmV at CO CT OD
  simp only at CO CT OD
  go_enter Tryz.func7, Tryz.ntmps7
  go_wp2_with (first
    | (go_at_call 18; ((with_reducible refine (MK.out _ _ AG.out).mono ?_); rintro _ w1 ⟨v1, rfl, h1, hb1⟩))
    | (go_at_call 9; ((with_reducible refine (CO.out _).mono ?_); rintro _ w2 ⟨p, c, rfl, hb2⟩; have K3 := Blk.new w2 #[.string ⟨#[99]⟩, .slice p 3 c, .int .i64 1, .int .i64 1, .int .i64 0, .int .i64 0, .int .i64 1, .int .i64 0, .int .i64 0] 24; have hb3 : Below w1.heap.size w1 (w2.alloc (.cells #[.string ⟨#[99]⟩, .slice p 3 c, .int .i64 1, .int .i64 1, .int .i64 0, .int .i64 0, .int .i64 1, .int .i64 0, .int .i64 0] 24)) := below_al hb2 _; have H3 := Lib.hid (h1.keep hb3))))
  obtain ⟨W3, hW3⟩ : ∃ W3, w2.alloc (.cells #[.string ⟨#[99]⟩, .slice p 3 c, .int .i64 1, .int .i64 1, .int .i64 0, .int .i64 0, .int .i64 1, .int .i64 0, .int .i64 0] 24) = W3 := ⟨_, rfl⟩
  have s3 : W3.heap.size = w2.heap.size + 1 := by rw [← hW3]; simp
  rw [hW3] at K3 hb3 H3 ⊢
  have r4 : IntsAt (W3.alloc (.cells #[.int .i64 0, .int .i64 1, .int .i64 2] 3)) (.slice (some ⟨W3.heap.size, 0, none⟩) 3 3) [0, 1, 2] := row_lit W3 [0, 1, 2] (by decide)
  rw [s3] at r4
  have H4 := H3.out.keep (below_al (Below.refl _ _) (.cells #[.int .i64 0, .int .i64 1, .int .i64 2] 3))
  have b4 : Below W3.heap.size W3 (W3.alloc (.cells #[.int .i64 0, .int .i64 1, .int .i64 2] 3)) := below_al (Below.refl _ _) _
  have HS3 := Lib.hid s3
  have HW3 := Lib.hid hW3
  clear s3 hW3
  have K3 := Lib.hid K3
  go_wp2_with (first
    | (go_at_call 12; ((with_reducible refine (CT.out _ _ _ _ _ H4 r4).mono ?_); rintro _ w5 ⟨pr, cr, pw, cw, rfl, h5, hb5⟩; have b5 := bel2' b4 hb5; have K6 := Blk.new w5 #[.int .i64 1, .int .i64 1, .int .i64 0, .int .i64 3, .slice pr 2 cr, .slice pw 1 cw] 37; have b6 : Below W3.heap.size W3 (w5.alloc (.cells #[.int .i64 1, .int .i64 1, .int .i64 0, .int .i64 3, .slice pr 2 cr, .slice pw 1 cw] 37)) := below_al b5 _; have H6 := h5.keep (below_al (Below.refl w5.heap.size w5) (.cells #[.int .i64 1, .int .i64 1, .int .i64 0, .int .i64 3, .slice pr 2 cr, .slice pw 1 cw] 37)); obtain ⟨x0, x1, x2, x3, x4, x5, x6, x7, x8⟩ := nine_cells (K3.out.keep b6); have H7 := Lib.hid (H3.out.keep b6); have H6 := Lib.hid H6; have K6 := Lib.hid K6)))
  obtain ⟨W6, hW6⟩ : ∃ W6, w5.alloc (.cells #[.int .i64 1, .int .i64 1, .int .i64 0, .int .i64 3, .slice pr 2 cr, .slice pw 1 cw] 37) = W6 := ⟨_, rfl⟩
  have s6 : W6.heap.size = w5.heap.size + 1 := by rw [← hW6]; simp
  rw [hW6] at K6 b6 H6 H7 x0 x1 x2 x3 x4 x5 x6 x7 x8 ⊢
  have r7 : IntsAt (W6.alloc (.cells #[.int .i64 0, .int .i64 1, .int .i64 2] 3)) (.slice (some ⟨W6.heap.size, 0, none⟩) 3 3) [0, 1, 2] := row_lit W6 [0, 1, 2] (by decide)
  rw [s6] at r7
  have b7 : Below W6.heap.size W6 (W6.alloc (.cells #[.int .i64 0, .int .i64 1, .int .i64 2] 3)) := below_al (Below.refl _ _) _
  have H8 := H7.out.keep b7
  have HW6 := Lib.hid hW6
  have HS6 := Lib.hid s6
  clear hW6 s6
  go_wp2_with (first
    | (go_at_call 15; ((with_reducible refine (OD.out _ _ _ _ _ H8 r7).mono ?_); rintro _ w8 ⟨v8, rfl, h8, hb8⟩; have b8 := bel2' b7 hb8; have hq8 := K6.out.keep b8; have x4' : w8.cell? ⟨w5.heap.size, 4, none⟩ = some (.slice pr 2 cr) := hq8.2.1 4; have x5' : w8.cell? ⟨w5.heap.size, 5, none⟩ = some (.slice pw 1 cw) := hq8.2.1 5; have r9 : IntsAt (w8.alloc (.cells #[.int .i64 1] 3)) (.slice (some ⟨w8.heap.size, 0, none⟩) 1 1) [1] := row_lit w8 [1] (by decide); have b9 : Below w8.heap.size w8 (w8.alloc (.cells #[.int .i64 1] 3)) := below_al (Below.refl _ _) _; have h9 := (H6.out.keep b8).keep b9; have h89 := Lib.hid (h8.keep b9); have H79 := Lib.hid ((H7.out.keep b8).keep b9)))
    | (go_at_call 17; ((with_reducible refine (EQ.out _ _ _ [1] h9 r9).mono ?_); rintro _ w10 ⟨rfl, hb10⟩; clear h9; have r11 : IntsAt (w10.alloc (.cells #[.int .i64 2, .int .i64 0, .int .i64 1] 3)) (.slice (some ⟨w10.heap.size, 0, none⟩) 3 3) [2, 0, 1] := row_lit w10 [2, 0, 1] (by decide); have b11 : Below w10.heap.size w10 (w10.alloc (.cells #[.int .i64 2, .int .i64 0, .int .i64 1] 3)) := below_al (Below.refl _ _) _; have h11 := (h89.out.keep hb10).keep b11; have H711 := Lib.hid ((H79.out.keep hb10).keep b11)))
    | (go_at_call 17; ((with_reducible refine (EQ.out _ _ _ [2, 0, 1] h11 r11).mono ?_); rintro _ w12 ⟨rfl, hb12⟩; have H712 := H711.out.keep hb12))
    | (go_at_call 19; ((with_reducible refine (PO.out _ _ H712).mono ?_); rintro _ w13 ⟨v13, rfl, h13, hb13⟩; have r14 : IntsAt (w13.alloc (.cells #[.int .i64 1] 3)) (.slice (some ⟨w13.heap.size, 0, none⟩) 1 1) [1] := row_lit w13 [1] (by decide); have b14 : Below w13.heap.size w13 (w13.alloc (.cells #[.int .i64 1] 3)) := below_al (Below.refl _ _) _; have h14 := h13.keep b14))
    | (go_at_call 17; ((with_reducible refine (EQ.out _ _ _ [1] h14 r14).mono ?_); rintro _ w15 ⟨rfl, hb15⟩)))
  go_ret
  have bA := below_al (below_al (below_al (below_al (below_al (below_al (Below.refl w.heap.size w) (.cells #[.int .i64 0, .int .i64 1] 3)) (.cells #[.int .i64 0, .int .i64 1] 3)) (.cells #[.int .i64 1] 3)) (.cells #[.int .i64 1] 3)) (.cells #[.int .i64 2, .int .i64 1] 3)) (.cells #[.slice (some ⟨w.heap.size, 0, none⟩) 2 2, .slice (some ⟨w.heap.size + 1, 0, none⟩) 2 2, .slice (some ⟨w.heap.size + 2, 0, none⟩) 1 1, .slice (some ⟨w.heap.size + 3, 0, none⟩) 1 1, .slice (some ⟨w.heap.size + 4, 0, none⟩) 2 2] 26)
  exact ⟨rfl, bel2' (bel2' (bel2' (bel2' (bel2' (bel2' (bel2' (bel2' (bel2' (bel2' (bel2' bA hb1) hb3) b6) b8) b9) hb10) b11) hb12) hb13) b14) hb15⟩

end Go.Proofs.YtbnhgmikegdppaaGreat

namespace Go.Proofs.YtbnhgmikegdppaaGreat
open Go.RowKit Go.Proofs.Kit Go.Proofs.Nums

set_option maxHeartbeats 4000000 in
theorem rfrom_r {v : Value} {q : Q} {L : Nat} {w : World} (h : RatAt w v q L) (hL : L ≤ 1000) :
    Calls Tryz.prog 93 #[v] w fun e w' => ∃ v', e = .returned v' ∧ RFr w' v' q.norm w.heap.size ∧ Below w.heap.size w w' := by
  obtain ⟨p1, l1, k1, p2, l2, k2, rfl, hn, hd⟩ := h.shape
  obtain ⟨neg, n, d⟩ := q
  have FN : Hid (∀ w', Below w.heap.size w w' → Calls Tryz.prog 109 #[.slice p1 l1 k1] w' fun e w'' => ∃ v', e = .returned v' ∧ BitAt w'' v' (bitsN n) ∧ Below w'.heap.size w' w'') := Lib.hid (fun w' hb => from_n (hn.keep hb) hL)
  have FD : Hid (∀ w', Below w.heap.size w w' → Calls Tryz.prog 109 #[.slice p2 l2 k2] w' fun e w'' => ∃ v', e = .returned v' ∧ BitAt w'' v' (bitsN d) ∧ Below w'.heap.size w' w'') := Lib.hid (fun w' hb => from_n (hd.keep hb) hL)
  have NM : Hid (∀ va vb w, BitAt w va (bitsN n) → BitAt w vb (bitsN d) → Calls Tryz.prog 108 #[.bool neg, va, vb] w fun e w' => ∃ v, e = .returned v ∧ RFr w' v (Q.mk' neg n d) w.heap.size ∧ Below w.heap.size w w') := Lib.hid (fun va vb w h h' => rnorm_r h h' (Nat.le_trans (num_bits hn) (by omega)) (Nat.le_trans (num_bits hd) (by omega)))
  clear hn hd h
  have hnorm : Q.norm ⟨neg, n, d⟩ = Q.mk' neg n d := rfl
  rw [hnorm]
  clear hnorm
  have b0 := ((Blk.new w #[.bool neg, .slice p1 l1 k1, .slice p2 l2 k2] 51).alloc (.cells #[.bool false, .slice none 0 0, .slice none 0 0] 125)).drew
  have b1 := (Blk.new (w.alloc (.cells #[.bool neg, .slice p1 l1 k1, .slice p2 l2 k2] 51)) #[.bool false, .slice none 0 0, .slice none 0 0] 125).drew
  rw [World.size_alloc] at b1
  have hBd : Below w.heap.size w ((w.alloc (.cells #[.bool neg, .slice p1 l1 k1, .slice p2 l2 k2] 51)).alloc (.cells #[.bool false, .slice none 0 0, .slice none 0 0] 125)).drew := (((Below.refl _ _).alloc (Nat.le_refl _) _).alloc (by simp) _).drew
  have hsz : w.heap.size + 2 ≤ ((w.alloc (.cells #[.bool neg, .slice p1 l1 k1, .slice p2 l2 k2] 51)).alloc (.cells #[.bool false, .slice none 0 0, .slice none 0 0] 125)).drew.heap.size := by simp
  go_enter Tryz.func93, Tryz.ntmps93
  go_wp2_with fail
  revert b0 b1 hBd hsz
  generalize ((w.alloc (.cells #[.bool neg, .slice p1 l1 k1, .slice p2 l2 k2] 51)).alloc (.cells #[.bool false, .slice none 0 0, .slice none 0 0] 125)) = W
  intro b0 b1 hBd hsz
  have B0 := Lib.hid b0
  have B1 := Lib.hid b1
  obtain ⟨c0, c1, c2⟩ := b0.three
  clear b0 b1
  go_region_with (first
    | (go_at_call 109; ((with_reducible refine (FN.out _ hBd).mono ?_); rintro e w3 ⟨v3, rfl, hv3, hb3⟩; have hB3 := bel2' hBd hb3; have B03 := Lib.hid (B0.out.keep hb3); have B13 := Lib.hid (B1.out.keep hb3); obtain ⟨d0, d1, d2⟩ := B03.out.three))
    | (go_at_call 109; ((with_reducible refine (FD.out _ hB3).mono ?_); rintro e w4 ⟨v4, rfl, hv4, hb4⟩; have hB4 := bel2' hB3 hb4; have B04 := Lib.hid (B03.out.keep hb4); have B14 := Lib.hid (B13.out.keep hb4); obtain ⟨e0, e1, e2⟩ := B04.out.three; have hv34 := hv3.keep hb4))
    | (go_at_call 108; ((with_reducible refine (NM.out _ _ _ hv34 hv4).mono ?_); rintro e w5 ⟨v5, rfl, hv5, hb5⟩; have hB5 := bel2' hB4 hb5; obtain ⟨x1, y1, z1, x2, y2, z2, rfl, g1, g2, g3, g4⟩ := hv5.shape; have B15 := Lib.hid (B14.out.keep hb5); obtain ⟨k0, k1', k2'⟩ := B15.out.three; obtain ⟨f0, f1, f2⟩ := B15.out.free3)))
  all_goals
    go_wp2_with fail
    refine bodyPost_ret (v := .agg #[.bool (Q.mk' neg n d).neg, .slice x1 y1 z1, .slice x2 y2 z2]) (by simp [results, Tryz.results93, go_sem, k0, k1', k2']) rfl ?_
    have hz5 : w.heap.size + 2 ≤ w4.heap.size := Nat.le_trans hsz (Nat.le_trans hb3.size hb4.size)
    exact ⟨_, rfl, retR hB5 (by omega) ⟨_, _, rfl, g1, g2, g3.mono (by omega), g4.mono (by omega)⟩⟩


end Go.Proofs.YtbnhgmikegdppaaGreat

namespace Go.Proofs.YtbnhgmikegdppaaGreat
open Go.RowKit Go.Proofs.Kit Go.Proofs.Nums

set_option maxRecDepth 100000 in
set_option maxHeartbeats 8000000 in
theorem radd_r {va vb : Value} {a b : Q} {w : World} (ha : RAt w va a) (hb : RAt w vb b) (sa : a.Sz 10000) (sb : b.Sz 10000) :
    Calls Tryz.prog 106 #[va, vb] w fun e w' => ∃ v', e = .returned v' ∧ RFr w' v' (Q.addR a b) w.heap.size ∧ Below w.heap.size w w' := by
  obtain ⟨p1, l1, k1, p2, l2, k2, rfl, hn, hd⟩ := ha.shape
  obtain ⟨p3, l3, k3, p4, l4, k4, rfl, hm, hc⟩ := hb.shape
  obtain ⟨an, n, d⟩ := a
  obtain ⟨bn, m, c⟩ := b
  simp only at hn hd hm hc
  have HN := Lib.hid (fun w' (h : Below w.heap.size w w') => hn.keep h)
  have HD := Lib.hid (fun w' (h : Below w.heap.size w w') => hd.keep h)
  have HM := Lib.hid (fun w' (h : Below w.heap.size w w') => hm.keep h)
  have HC := Lib.hid (fun w' (h : Below w.heap.size w w') => hc.keep h)
  have SA := Lib.hid sa
  have SB := Lib.hid sb
  have lx : Hid ((bitsN (n * c)).length ≤ 20000) := Lib.hid (Nat.le_trans (len_mul sa.1 sb.2) (by omega))
  have ly : Hid ((bitsN (m * d)).length ≤ 20000) := Lib.hid (Nat.le_trans (len_mul sb.1 sa.2) (by omega))
  have lz : Hid ((bitsN (d * c)).length ≤ 20000) := Lib.hid (Nat.le_trans (len_mul sa.2 sb.2) (by omega))
  have MX := Lib.hid (fun w' (h : Below w.heap.size w w') => rmul_b _ _ n c w' (hn.keep h) (hc.keep h) (Nat.le_trans sa.1 (by omega)) (Nat.le_trans sb.2 (by omega)))
  have MY := Lib.hid (fun w' (h : Below w.heap.size w w') => rmul_b _ _ m d w' (hm.keep h) (hd.keep h) (Nat.le_trans sb.1 (by omega)) (Nat.le_trans sa.2 (by omega)))
  have MZ := Lib.hid (fun w' (h : Below w.heap.size w w') => rmul_b _ _ d c w' (hd.keep h) (hc.keep h) (Nat.le_trans sa.2 (by omega)) (Nat.le_trans sb.2 (by omega)))
  have NM : Hid (∀ neg s va vb w, BitAt w va (bitsN s) → BitAt w vb (bitsN (d * c)) → Hid ((bitsN s).length ≤ 40000) → Calls Tryz.prog 108 #[.bool neg, va, vb] w fun e w' => ∃ v, e = .returned v ∧ RFr w' v (Q.mk' neg s (d * c)) w.heap.size ∧ Below w.heap.size w w') := Lib.hid (fun neg s va vb w h h' hs => rnorm_r h h' hs.out (Nat.le_trans lz.out (by omega)))
  have HADD : Hid (Q.addR ⟨an, n, d⟩ ⟨bn, m, c⟩ = Q.mk' (sumS an (n * c) bn (m * d)).1 (sumS an (n * c) bn (m * d)).2 (d * c)) := Lib.hid rfl
  rw [HADD.out]
  obtain ⟨X, hX⟩ : ∃ X, n * c = X := ⟨_, rfl⟩
  obtain ⟨Y, hY⟩ : ∃ Y, m * d = Y := ⟨_, rfl⟩
  obtain ⟨Z, hZ⟩ : ∃ Z, d * c = Z := ⟨_, rfl⟩
  rw [hX] at lx MX ⊢
  rw [hY] at ly MY ⊢
  rw [hZ] at lz MZ NM ⊢
  have b0 := (((Blk.new w #[.bool an, .slice p1 l1 k1, .slice p2 l2 k2] 125).alloc (.cells #[.bool bn, .slice p3 l3 k3, .slice p4 l4 k4] 125)).alloc (.cells #[.bool false, .slice none 0 0, .slice none 0 0] 125)).drew
  have b1 := ((Blk.new (w.alloc (.cells #[.bool an, .slice p1 l1 k1, .slice p2 l2 k2] 125)) #[.bool bn, .slice p3 l3 k3, .slice p4 l4 k4] 125).alloc (.cells #[.bool false, .slice none 0 0, .slice none 0 0] 125)).drew
  have b2 := (Blk.new ((w.alloc (.cells #[.bool an, .slice p1 l1 k1, .slice p2 l2 k2] 125)).alloc (.cells #[.bool bn, .slice p3 l3 k3, .slice p4 l4 k4] 125)) #[.bool false, .slice none 0 0, .slice none 0 0] 125).drew
  rw [World.size_alloc] at b1
  rw [World.size_alloc, World.size_alloc] at b2
  have hBd : Below w.heap.size w (((w.alloc (.cells #[.bool an, .slice p1 l1 k1, .slice p2 l2 k2] 125)).alloc (.cells #[.bool bn, .slice p3 l3 k3, .slice p4 l4 k4] 125)).alloc (.cells #[.bool false, .slice none 0 0, .slice none 0 0] 125)).drew := ((((Below.refl _ _).alloc (Nat.le_refl _) _).alloc (by simp) _).alloc (by simp; omega) _).drew
  clear hn hd hm hc ha hb sa sb HADD hX hY hZ
  go_enter Tryz.func106, Tryz.ntmps106
  go_wp2_with fail
  revert b0 b1 b2 hBd
  generalize ((w.alloc (.cells #[.bool an, .slice p1 l1 k1, .slice p2 l2 k2] 125)).alloc (.cells #[.bool bn, .slice p3 l3 k3, .slice p4 l4 k4] 125)).alloc (.cells #[.bool false, .slice none 0 0, .slice none 0 0] 125) = W
  intro b0 b1 b2 hBd
  have B0 := Lib.hid b0
  have B1 := Lib.hid b1
  have B2 := Lib.hid b2
  have s0 : W.drew.cell? ⟨w.heap.size, 0, none⟩ = some (.bool an) ∧ W.drew.cell? ⟨w.heap.size, 1, none⟩ = some (.slice p1 l1 k1) ∧ W.drew.cell? ⟨w.heap.size, 2, none⟩ = some (.slice p2 l2 k2) ∧ W.drew.cell? ⟨w.heap.size + 1, 0, none⟩ = some (.bool bn) ∧ W.drew.cell? ⟨w.heap.size + 1, 1, none⟩ = some (.slice p3 l3 k3) ∧ W.drew.cell? ⟨w.heap.size + 1, 2, none⟩ = some (.slice p4 l4 k4) :=
    ⟨b0.three.1, b0.three.2.1, b0.three.2.2, b1.three.1, b1.three.2.1, b1.three.2.2⟩
  have S0 := Lib.hid s0
  clear b0 b1 b2 s0
  go_region_held3 (fun w' => w'.cell? ⟨w.heap.size, 0, none⟩ = some (.bool an) ∧ w'.cell? ⟨w.heap.size, 1, none⟩ = some (.slice p1 l1 k1) ∧ w'.cell? ⟨w.heap.size, 2, none⟩ = some (.slice p2 l2 k2) ∧ w'.cell? ⟨w.heap.size + 1, 0, none⟩ = some (.bool bn) ∧ w'.cell? ⟨w.heap.size + 1, 1, none⟩ = some (.slice p3 l3 k3) ∧ w'.cell? ⟨w.heap.size + 1, 2, none⟩ = some (.slice p4 l4 k4))
    (first | exact S0.out | exact S3.out | exact S4.out | exact S5.out)
    (first
      | (go_at_call 113; ((with_reducible refine (MX.out _ hBd).mono ?_); rintro e w3 ⟨v3, rfl, hv3, hb3⟩; have hB3 := bel2' hBd hb3; have S3 := Lib.hid (Below.six hb3 S0.out)))
      | (go_at_call 113; ((with_reducible refine (MY.out _ hB3).mono ?_); rintro e w4 ⟨v4, rfl, hv4, hb4⟩; have hB4 := bel2' hB3 hb4; have S4 := Lib.hid (Below.six hb4 S3.out)))
      | (go_at_call 113; ((with_reducible refine (MZ.out _ hB4).mono ?_); rintro e w5 ⟨v5, rfl, hv5, hb5⟩; have hB5 := bel2' hB4 hb5; have S5 := Lib.hid (Below.six hb5 S4.out); have B2a := Lib.hid (((B2.out.keep hb3).keep hb4).keep hb5); have hX5 := Lib.hid ((hv3.keep hb4).keep hb5); have hY5 := Lib.hid (hv4.keep hb5); have hZ5 := Lib.hid hv5)))
  all_goals
    obtain ⟨g0, g1, g2, g3, g4, g5⟩ := S5.out
    clear hv3 hv4 hv5
    by_cases hs : an = bn
    · have hsb : (an == bn) = true := by rw [hs]; simp
      have e1 : sumS an X bn Y = (an, X + Y) := by unfold sumS; rw [if_pos hs]
      have E1 := Lib.hid e1
      have ls : Hid ((bitsN (X + Y)).length ≤ 40000) := Lib.hid (Nat.le_trans (len_add lx.out ly.out) (by omega))
      have AD := Lib.hid (fun w' (h : Below w5.heap.size w5 w') => radd_b v3 v4 X Y w' (hX5.out.keep h) (hY5.out.keep h) lx ly)
      have hdr := (Below.refl w5.heap.size w5).drew
      obtain ⟨j0, j1, j2, _, _, _⟩ := Below.six hdr S5.out
      clear hs e1
      go_wp2_with fail
      go_region_with (first
        | (go_at_call 114; ((with_reducible refine (AD.out _ hdr).mono ?_); rintro e w6 ⟨v6, rfl, hv6, hb6⟩; have hB6 := bel2' hdr hb6; obtain ⟨o0, o1, o2, _, _, _⟩ := Below.six hB6 S5.out))
        | (go_at_call 108; ((with_reducible refine (NM.out _ _ _ _ _ hv6 (hZ5.out.keep hB6) ls).mono ?_); rintro e w7 ⟨v7, rfl, hv7, hb7⟩; have hB7 := bel2' hB6 hb7; obtain ⟨x1, y1, z1, x2, y2, z2, rfl, f1, f2, f3, f4⟩ := hv7.shape; have B2b := Lib.hid (B2a.out.keep hB7); obtain ⟨m0, m1, m2⟩ := B2b.out.three; obtain ⟨t0, t1, t2⟩ := B2b.out.free3)))
      all_goals
        go_wp2_with fail
        refine bodyPost_ret (v := .agg #[.bool (Q.mk' an (X + Y) Z).neg, .slice x1 y1 z1, .slice x2 y2 z2]) (by simp [results, Tryz.results106, go_sem, m0, m1, m2]) rfl ?_
        have hz6 : w.heap.size + 1 + 1 + 1 ≤ w6.heap.size := Nat.le_trans (Nat.succ_le_of_lt B2a.out.1) hB6.size
        refine ⟨_, rfl, ?_⟩
        rw [E1.out]
        exact retR (bel2' hB5 hB7) (by omega) ⟨_, _, rfl, f1, f2, f3.mono hz6, f4.mono hz6⟩
    · have hsb : (an == bn) = false := by rw [beq_eq_false_iff_ne]; exact hs
      rcases Nat.lt_or_ge X Y with hxy | hxy
      · have e1 : sumS an X bn Y = (bn, Y - X) := by unfold sumS; rw [if_neg hs, if_neg (by omega)]
        have E1 := Lib.hid e1
        have ls : Hid ((bitsN (Y - X)).length ≤ 40000) := Lib.hid (Nat.le_trans (bits_len_mono (Nat.sub_le _ _)) (Nat.le_trans ly.out (by omega)))
        have hle := Lib.hid (Nat.le_of_lt hxy)
        have CM := Lib.hid (rcmp_b (c := -1) v3 v4 X Y w5 hX5.out hY5.out lx ly (Lib.hid (cmpN_lt hxy)))
        have SU := Lib.hid (fun w' (h : Below w5.heap.size w5 w') => rsub_b v4 v3 Y X w' (hY5.out.keep h) (hX5.out.keep h) ly hle)
        clear hs e1 hxy
        go_wp2_with (go_at_call 115; ((with_reducible refine CM.out.mono ?_); rintro e w6 ⟨rfl, hb6⟩))
        have hdr := hb6.drew
        obtain ⟨_, _, _, j3, j4, j5⟩ := Below.six hdr S5.out
        go_region_with (first
          | (go_at_call 116; ((with_reducible refine (SU.out _ hdr).mono ?_); rintro e w7 ⟨v7, rfl, hv7, hb7⟩; have hB7 := hdr.trans (hb7.mono hb6.size); obtain ⟨_, _, _, o3, o4, o5⟩ := Below.six hB7 S5.out))
          | (go_at_call 108; ((with_reducible refine (NM.out _ _ _ _ _ hv7 (hZ5.out.keep hB7) ls).mono ?_); rintro e w8 ⟨v8, rfl, hv8, hb8⟩; have hB8 := bel2' hB7 hb8; obtain ⟨x1, y1, z1, x2, y2, z2, rfl, f1, f2, f3, f4⟩ := hv8.shape; have B2b := Lib.hid (B2a.out.keep hB8); obtain ⟨m0, m1, m2⟩ := B2b.out.three; obtain ⟨t0, t1, t2⟩ := B2b.out.free3)))
        all_goals
          go_wp2_with fail
          refine bodyPost_ret (v := .agg #[.bool (Q.mk' bn (Y - X) Z).neg, .slice x1 y1 z1, .slice x2 y2 z2]) (by simp [results, Tryz.results106, go_sem, m0, m1, m2]) rfl ?_
          have hz7 : w.heap.size + 1 + 1 + 1 ≤ w7.heap.size := Nat.le_trans (Nat.succ_le_of_lt B2a.out.1) hB7.size
          refine ⟨_, rfl, ?_⟩
          rw [E1.out]
          exact retR (bel2' hB5 hB8) (by omega) ⟨_, _, rfl, f1, f2, f3.mono hz7, f4.mono hz7⟩
      · have e1 : sumS an X bn Y = (an, X - Y) := by unfold sumS; rw [if_neg hs, if_pos hxy]
        have E1 := Lib.hid e1
        have ls : Hid ((bitsN (X - Y)).length ≤ 40000) := Lib.hid (Nat.le_trans (bits_len_mono (Nat.sub_le _ _)) (Nat.le_trans lx.out (by omega)))
        have hle := Lib.hid hxy
        obtain ⟨cc, hcc⟩ : ∃ cc, cmpN X Y = cc := ⟨_, rfl⟩
        have hc0 : 0 ≤ cc := by rw [← hcc]; unfold cmpN; rw [if_neg (by omega)]; split <;> omega
        have CM := Lib.hid (rcmp_b (c := cc) v3 v4 X Y w5 hX5.out hY5.out lx ly (Lib.hid hcc))
        have SU := Lib.hid (fun w' (h : Below w5.heap.size w5 w') => rsub_b v3 v4 X Y w' (hX5.out.keep h) (hY5.out.keep h) lx hle)
        clear hs e1 hxy hcc
        go_wp2_with (go_at_call 115; ((with_reducible refine CM.out.mono ?_); rintro e w6 ⟨rfl, hb6⟩))
        have hdr := hb6.drew
        obtain ⟨j0, j1, j2, _, _, _⟩ := Below.six hdr S5.out
        go_region_with (first
          | (go_at_call 116; ((with_reducible refine (SU.out _ hdr).mono ?_); rintro e w7 ⟨v7, rfl, hv7, hb7⟩; have hB7 := hdr.trans (hb7.mono hb6.size); obtain ⟨o0, o1, o2, _, _, _⟩ := Below.six hB7 S5.out))
          | (go_at_call 108; ((with_reducible refine (NM.out _ _ _ _ _ hv7 (hZ5.out.keep hB7) ls).mono ?_); rintro e w8 ⟨v8, rfl, hv8, hb8⟩; have hB8 := bel2' hB7 hb8; obtain ⟨x1, y1, z1, x2, y2, z2, rfl, f1, f2, f3, f4⟩ := hv8.shape; have B2b := Lib.hid (B2a.out.keep hB8); obtain ⟨m0, m1, m2⟩ := B2b.out.three; obtain ⟨t0, t1, t2⟩ := B2b.out.free3)))
        all_goals
          go_wp2_with fail
          refine bodyPost_ret (v := .agg #[.bool (Q.mk' an (X - Y) Z).neg, .slice x1 y1 z1, .slice x2 y2 z2]) (by simp [results, Tryz.results106, go_sem, m0, m1, m2]) rfl ?_
          have hz7 : w.heap.size + 1 + 1 + 1 ≤ w7.heap.size := Nat.le_trans (Nat.succ_le_of_lt B2a.out.1) hB7.size
          refine ⟨_, rfl, ?_⟩
          rw [E1.out]
          exact retR (bel2' hB5 hB8) (by omega) ⟨_, _, rfl, f1, f2, f3.mono hz7, f4.mono hz7⟩

end Go.Proofs.YtbnhgmikegdppaaGreat

namespace Go.Proofs.YtbnhgmikegdppaaGreat
open Go.RowKit Go.Proofs.Kit Go.Proofs.Nums

/-- The sign of a difference, as the reference reads it. -/
def cmpD (d : Q) : Int := if d.n = 0 then 0 else if d.neg then -1 else 1

set_option maxRecDepth 100000 in
set_option maxHeartbeats 8000000 in
theorem rcmp_r {va vb : Value} {a b : Q} {w : World} (ha : RAt w va a) (hb : RAt w vb b) (sa : a.Sz 10000) (sb : b.Sz 10000) :
    Calls Tryz.prog 92 #[va, vb] w fun e w' => e = .returned (.int .i64 (cmpD (Q.addR a (Q.mk' (!b.neg) b.n b.d)))) ∧ Below w.heap.size w w' := by
  obtain ⟨p1, l1, k1, p2, l2, k2, rfl, hn, hd⟩ := ha.shape
  obtain ⟨p3, l3, k3, p4, l4, k4, rfl, hm, hc⟩ := hb.shape
  obtain ⟨o, ho⟩ : ∃ o, Q.mk' (!b.neg) b.n b.d = o := ⟨_, rfl⟩
  obtain ⟨⟨dneg, dn, dd⟩, hD⟩ : ∃ D, Q.addR a o = D := ⟨_, rfl⟩
  have so : o.Sz 10000 := by rw [← ho]; exact Q.mk'_sz sb.1 sb.2 (by omega)
  rw [ho, hD]
  have OP : Hid (∀ w', Below w.heap.size w w' → Calls Tryz.prog 107 #[.agg #[.bool b.neg, .slice p3 l3 k3, .slice p4 l4 k4]] w' fun e w'' => ∃ v', e = .returned v' ∧ RFr w'' v' o w'.heap.size ∧ Below w'.heap.size w' w'') := Lib.hid (fun w' h => by
    rw [← ho]; exact ropp_r (hb.keep h) ⟨Nat.le_trans sb.1 (by omega), Nat.le_trans sb.2 (by omega)⟩)
  have AD : Hid (∀ v w', Below w.heap.size w w' → RAt w' v o → Calls Tryz.prog 106 #[.agg #[.bool a.neg, .slice p1 l1 k1, .slice p2 l2 k2], v] w' fun e w'' => ∃ x z x2 z2, e = .returned (.agg #[.bool dneg, .slice x (bitsN dn).length z, .slice x2 (bitsN dd).length z2]) ∧ Below w'.heap.size w' w'') := Lib.hid (fun v w' h h' => by
    have := radd_r (ha.keep h) h' sa so
    rw [hD] at this
    refine this.mono ?_
    rintro e w'' ⟨v', rfl, ⟨vn, vd, rfl, g1, g2, _, _⟩, h3⟩
    obtain ⟨x, z, rfl⟩ := g1.shape
    obtain ⟨x2, z2, rfl⟩ := g2.shape
    exact ⟨_, _, _, _, rfl, h3⟩)
  obtain ⟨an, han⟩ : ∃ t, a.neg = t := ⟨_, rfl⟩
  obtain ⟨bn, hbn⟩ : ∃ t, b.neg = t := ⟨_, rfl⟩
  rw [hbn] at OP
  rw [han] at AD
  rw [han, hbn]
  have b0 := (Blk.new w #[.bool an, .slice p1 l1 k1, .slice p2 l2 k2] 125).alloc (.cells #[.bool bn, .slice p3 l3 k3, .slice p4 l4 k4] 125)
  have b1 := (Blk.new (w.alloc (.cells #[.bool an, .slice p1 l1 k1, .slice p2 l2 k2] 125)) #[.bool bn, .slice p3 l3 k3, .slice p4 l4 k4] 125)
  rw [World.size_alloc] at b1
  have hBd : Below w.heap.size w ((w.alloc (.cells #[.bool an, .slice p1 l1 k1, .slice p2 l2 k2] 125)).alloc (.cells #[.bool bn, .slice p3 l3 k3, .slice p4 l4 k4] 125)) := ((Below.refl _ _).alloc (Nat.le_refl _) _).alloc (by simp) _
  clear hn hd hm hc ha hb sa sb so ho hD han hbn
  obtain ⟨C, hC⟩ : ∃ C, cmpD ⟨dneg, dn, dd⟩ = C := ⟨_, rfl⟩
  rw [hC]
  obtain ⟨N, hN⟩ : ∃ N, (bitsN dn).length = N := ⟨_, rfl⟩
  have hcase : (N = 0 ∧ C = 0) ∨ ((((N : Nat) : Int) == 0) = false ∧ dneg = true ∧ C = -1) ∨ ((((N : Nat) : Int) == 0) = false ∧ dneg = false ∧ C = 1) := by
    subst hC hN
    unfold cmpD
    rcases Nat.eq_zero_or_pos dn with h0 | h0
    · subst h0; exact .inl ⟨rfl, rfl⟩
    · right
      have hz : (((bitsN dn).length : Int) == 0) = false := by rw [beq_eq_false_iff_ne]; have := bits_len_pos h0; omega
      simp only
      rw [if_neg (by omega)]
      cases dneg
      · exact .inr ⟨hz, rfl, rfl⟩
      · exact .inl ⟨hz, rfl, rfl⟩
  rw [hN] at AD
  clear hN hC
  go_enter Tryz.func92, Tryz.ntmps92
  go_wp2_with fail
  revert b0 b1 hBd
  generalize (w.alloc (.cells #[.bool an, .slice p1 l1 k1, .slice p2 l2 k2] 125)).alloc (.cells #[.bool bn, .slice p3 l3 k3, .slice p4 l4 k4] 125) = W
  intro b0 b1 hBd
  have B0 := Lib.hid b0.drew
  have B1 := Lib.hid b1.drew
  have B0A := Lib.hid (b0.alloc (.cells #[.bool false, .slice none 0 0, .slice none 0 0] 125)).drew
  have hBA := (hBd.alloc hBd.size (.cells #[.bool false, .slice none 0 0, .slice none 0 0] 125)).drew
  obtain ⟨ca0, ca1, ca2⟩ := (b0.alloc (.cells #[.bool false, .slice none 0 0, .slice none 0 0] 125)).drew.three
  obtain ⟨da0, da1, da2⟩ := (b1.alloc (.cells #[.bool false, .slice none 0 0, .slice none 0 0] 125)).drew.three
  have hBd := hBd.drew
  obtain ⟨c0, c1, c2⟩ := b0.drew.three
  obtain ⟨d0, d1, d2⟩ := b1.drew.three
  have NA := Lib.hid (Blk.new W #[.bool false, .slice none 0 0, .slice none 0 0] 125).drew
  clear b0 b1
  go_region_with (first
    | (go_at_call 107; ((with_reducible refine (OP.out _ (by first | exact hBd | exact hBA)).mono ?_); rintro e w3 ⟨v3, rfl, hv3, hb3⟩; have hB3 : Below w.heap.size w w3 := (by first | exact bel2' hBd hb3 | exact bel2' hBA hb3); have B03 : Hid (Blk w.heap.size #[.bool an, .slice p1 l1 k1, .slice p2 l2 k2] w3) := Lib.hid (by first | exact B0.out.keep hb3 | exact B0A.out.keep hb3); obtain ⟨e0, e1, e2⟩ := B03.out.three; obtain ⟨ea0, ea1, ea2⟩ := (B03.out.alloc (.cells #[.bool false, .slice none 0 0, .slice none 0 0] 125)).three; try have N3 := Lib.hid (NA.out.keep hb3)))
    | (go_at_call 106; ((with_reducible refine (AD.out _ _ (by first | exact hB3 | exact hB3.alloc hB3.size _) (by first | exact hv3.at | exact hv3.at.keep ((Below.refl _ _).alloc (Nat.le_refl _) _))).mono ?_); rintro e w4 ⟨x1, z1, x2, z2, rfl, hb4⟩; have hB4 : Below w.heap.size w w4 := (by first | exact bel2' hB3 hb4 | exact bel2' (hB3.alloc hB3.size _) hb4); try (first | have N4 := N3.out.keep hb4 | have N4 := (Blk.new w3 #[.bool false, .slice none 0 0, .slice none 0 0] 125).keep hb4); try obtain ⟨m0, m1, m2⟩ := N4.three; try obtain ⟨t0, t1, t2⟩ := N4.free3)))
  all_goals
    rcases hcase with ⟨h1, rfl⟩ | ⟨h1, rfl, rfl⟩ | ⟨h1, rfl, rfl⟩
    all_goals
      go_wp2_with fail
      go_ret
      refine ⟨rfl, ?_⟩
      first
        | exact below_set3 hB4 hB3.size _ _ _
        | exact below_set3 hB4 hBd.size _ _ _
        | exact hB4.alloc hB4.size _
        | exact below_set3 (hB4.alloc hB4.size _) hB4.size _ _ _

end Go.Proofs.YtbnhgmikegdppaaGreat

/- Whole numbers of the reference: From, Of, Add, Cmp. -/
namespace Go.Proofs.Nums

def wq (n : Nat) : Q := ⟨false, n, 1⟩
theorem wq_mk (n : Nat) : Q.mk' false n 1 = wq n := by
  by_cases h : n = 0
  · subst h; rfl
  · rw [Q.mk'_pos (by omega) (by omega), Nat.gcd_one_right, Nat.div_one, Nat.div_one]
    rfl
theorem whole_wq (x : Int) : wholeQ x = wq x.toNat := wq_mk _
theorem of_wq (n : Nat) : Q.of n = wq n := by
  unfold Q.of
  rw [decide_eq_false (by omega), Int.natAbs_natCast]
  exact wq_mk n
theorem norm_wq (n : Nat) : (wq n).norm = wq n := wq_mk n
theorem add_wq (a b : Nat) : Q.addR (wq a) (wq b) = wq (a + b) := by
  unfold Q.addR sumS wq
  simp only [Nat.mul_one, if_true]
  exact wq_mk (a + b)
theorem wq_sz {n : Nat} (h : n ≤ 1000000) : (wq n).Sz 10000 := by
  have h2 : (bitsN n).length ≤ 20 := bits_len_le n 20 (by omega)
  have h1 : (bitsN 1).length ≤ 20 := bits_len_le 1 20 (by omega)
  exact ⟨by show (bitsN n).length ≤ _; omega, by show (bitsN 1).length ≤ _; omega⟩

end Go.Proofs.Nums
namespace Go.Proofs.YtbnhgmikegdppaaGreat
open Go.RowKit Go.Proofs.Kit Go.Proofs.Nums

theorem cmp_wq (a b : Nat) : cmpD (Q.addR (wq a) (Q.mk' (!(wq b).neg) (wq b).n (wq b).d)) = cmpI a b := by
  unfold cmpI
  by_cases hb : b = 0
  · subst hb
    have e : Q.mk' (!(wq 0).neg) (wq 0).n (wq 0).d = wq 0 := rfl
    rw [e, add_wq]
    unfold cmpD wq
    simp only [Nat.add_zero]
    by_cases ha : a = 0
    · rw [if_pos ha, if_neg (by omega), if_neg (by omega)]
    · rw [if_neg ha, if_neg (by simp), if_neg (by omega), if_pos (by omega)]
  · have e : Q.mk' (!(wq b).neg) (wq b).n (wq b).d = ⟨true, b, 1⟩ := by
      show Q.mk' true b 1 = _
      rw [Q.mk'_pos (by omega) (by omega), Nat.gcd_one_right, Nat.div_one, Nat.div_one]
    rw [e]
    unfold Q.addR sumS wq
    simp only [Nat.mul_one, Bool.false_eq_true, if_false]
    by_cases h : b ≤ a
    · rw [if_pos h, wq_mk]
      unfold cmpD wq
      simp only
      by_cases h2 : a - b = 0
      · rw [if_pos h2, if_neg (by omega), if_neg (by omega)]
      · rw [if_neg h2, if_neg (by simp), if_neg (by omega), if_pos (by omega)]
    · rw [if_neg h]
      have : Q.mk' true (b - a) 1 = ⟨true, b - a, 1⟩ := by
        rw [Q.mk'_pos (by omega) (by omega), Nat.gcd_one_right, Nat.div_one, Nat.div_one]
      rw [this]
      unfold cmpD
      simp only
      rw [if_neg (by omega), if_pos trivial, if_pos (by omega)]
/-- The whole number n, as the reference holds it. -/
def WAt (w : World) (p : Option Addr) (l k : Nat) (p' : Option Addr) (l' k' n : Nat) : Prop := RAt w (.agg #[.bool false, .slice p l k, .slice p' l' k']) (wq n)
theorem WAt.keep {w w' : World} {p p' : Option Addr} {l k l' k' n : Nat} (h : WAt w p l k p' l' k' n) (hb : Below w.heap.size w w') : WAt w' p l k p' l' k' n := RAt.keep h hb
def GivesW (n : Nat) (w : World) (e : Ending) (w' : World) : Prop := ∃ p l k p' l' k', e = .returned (.agg #[.bool false, .slice p l k, .slice p' l' k']) ∧ WAt w' p l k p' l' k' n ∧ Below w.heap.size w w'
theorem wfrom_c {p p' : Option Addr} {l k l' k' : Nat} {x : Int} {w : World} (h : ratR w [.bool false, .slice p l k, .slice p' l' k'] (wholeQ x)) :
    Calls Tryz.prog 93 #[.agg #[.bool false, .slice p l k, .slice p' l' k']] w (GivesW x.toNat w) := by
  obtain ⟨_, _, _, _, _, _, e, hr, _⟩ := h
  simp only [List.cons.injEq, Value.slice.injEq, and_true, true_and] at e
  obtain ⟨⟨rfl, rfl, rfl⟩, rfl, rfl, rfl⟩ := e
  have ha : RatAt w (.agg #[.bool false, .slice p l k, .slice p' l' k']) (wholeQ x) 2 := by
    obtain ⟨vn, vd, e, h1, h2⟩ := hr
    exact ⟨vn, vd, e, h1.num, h2.num⟩
  refine (rfrom_r ha (by omega)).mono ?_
  rintro e w' ⟨v', rfl, g1, g2⟩
  rw [whole_wq, norm_wq] at g1
  obtain ⟨p1, l1, k1, p2, l2, k2, rfl, _⟩ := g1.shape
  exact ⟨p1, l1, k1, p2, l2, k2, rfl, g1.at, g2⟩
theorem wadd_c {p1 p2 p3 p4 : Option Addr} {l1 k1 l2 k2 l3 k3 l4 k4 a b : Nat} {w : World} (ha : WAt w p1 l1 k1 p2 l2 k2 a) (hb : WAt w p3 l3 k3 p4 l4 k4 b) (h1 : a ≤ 1000000) (h2 : b ≤ 1000000) :
    Calls Tryz.prog 106 #[.agg #[.bool false, .slice p1 l1 k1, .slice p2 l2 k2], .agg #[.bool false, .slice p3 l3 k3, .slice p4 l4 k4]] w (GivesW (a + b) w) := by
  refine (radd_r ha hb (wq_sz h1) (wq_sz h2)).mono ?_
  rintro e w' ⟨v', rfl, g1, g2⟩
  rw [add_wq] at g1
  obtain ⟨p1, l1, k1, p2, l2, k2, rfl, _⟩ := g1.shape
  exact ⟨p1, l1, k1, p2, l2, k2, rfl, g1.at, g2⟩
theorem wcmp_c {p1 p2 p3 p4 : Option Addr} {l1 k1 l2 k2 l3 k3 l4 k4 a b : Nat} {w : World} (ha : WAt w p1 l1 k1 p2 l2 k2 a) (hb : WAt w p3 l3 k3 p4 l4 k4 b) (h1 : a ≤ 1000000) (h2 : b ≤ 1000000) :
    Calls Tryz.prog 92 #[.agg #[.bool false, .slice p1 l1 k1, .slice p2 l2 k2], .agg #[.bool false, .slice p3 l3 k3, .slice p4 l4 k4]] w fun e w' => e = .returned (.int .i64 (cmpI a b)) ∧ Below w.heap.size w w' := by
  have := rcmp_r ha hb (wq_sz h1) (wq_sz h2)
  rwa [cmp_wq] at this

end Go.Proofs.YtbnhgmikegdppaaGreat

/- The reference's comparison of rounds: two alike. -/
namespace Go.Proofs.YtbnhgmikegdppaaGreat
open Go.RowKit Go.Proofs.Kit Go.Proofs.Nums

theorem ratR_sl {w : World} {u1 u2 u3 : Value} {q : Q} (h : ratR w [u1, u2, u3] q) : ∃ p l k p' l' k', u1 = .bool false ∧ u2 = .slice p l k ∧ u3 = .slice p' l' k' := by
  obtain ⟨p, l, k, p', l', k', e, _⟩ := h
  simp only [List.cons.injEq, and_true] at e
  exact ⟨p, l, k, p', l', k', e.1, e.2.1, e.2.2⟩
theorem ratR_l {w : World} {v1 v2 : Value} {q : Q} (h : ratR w [.bool false, v1, v2] q) : RatL w (.agg #[.bool false, v1, v2]) false (limbs q.n) (limbs q.d) ∧ (limbs q.n).length ≤ 2 ∧ (limbs q.d).length ≤ 2 := by
  obtain ⟨p, l, k, p', l', k', e, hr, _⟩ := h
  simp only [List.cons.injEq, and_true, true_and] at e
  obtain ⟨rfl, rfl⟩ := e
  obtain ⟨vn, vd, e, h1, h2⟩ := hr
  simp only [Value.agg.injEq, Array.mk.injEq, List.cons.injEq, and_true] at e
  obtain ⟨_, rfl, rfl⟩ := e
  exact ⟨⟨_, _, rfl, h1.1, h2.1⟩, limbs_len_le _ _ h1.2, limbs_len_le _ _ h2.2⟩
theorem req_same {w : World} {v1 v2 v3 v4 : Value} {q : Q} (ha : ratR w [.bool false, v1, v2] q) (hb : ratR w [.bool false, v3, v4] q) :
    Calls Tryz.prog 64 #[.agg #[.bool false, v1, v2], .agg #[.bool false, v3, v4]] w fun e w' => e = .returned (.bool true) ∧ Below w.heap.size w w' := by
  obtain ⟨h1, l1, l2⟩ := ratR_l ha
  obtain ⟨h2, _, _⟩ := ratR_l hb
  have := req_r h1 h2 (by omega) (by omega) (by omega) (by omega)
  have e : eqR false (limbs q.n) (limbs q.d) false (limbs q.n) (limbs q.d) = true := by unfold eqR eqN; simp
  rwa [e] at this

theorem six_keep {w w' : World} {b1 o1 o2 o3 b2 o4 o5 o6 : Nat} {v1 v2 v3 v4 v5 v6 : Value} (hb : Below w.heap.size w w') (h : w.cell? ⟨b1, o1, none⟩ = some v1 ∧ w.cell? ⟨b1, o2, none⟩ = some v2 ∧ w.cell? ⟨b1, o3, none⟩ = some v3 ∧ w.cell? ⟨b2, o4, none⟩ = some v4 ∧ w.cell? ⟨b2, o5, none⟩ = some v5 ∧ w.cell? ⟨b2, o6, none⟩ = some v6) :
    w'.cell? ⟨b1, o1, none⟩ = some v1 ∧ w'.cell? ⟨b1, o2, none⟩ = some v2 ∧ w'.cell? ⟨b1, o3, none⟩ = some v3 ∧ w'.cell? ⟨b2, o4, none⟩ = some v4 ∧ w'.cell? ⟨b2, o5, none⟩ = some v5 ∧ w'.cell? ⟨b2, o6, none⟩ = some v6 :=
  ⟨cell_keep hb h.1, cell_keep hb h.2.1, cell_keep hb h.2.2.1, cell_keep hb h.2.2.2.1, cell_keep hb h.2.2.2.2.1, cell_keep hb h.2.2.2.2.2⟩

set_option maxRecDepth 100000 in
set_option maxHeartbeats 4000000 in
theorem samenums_c {va vb : Value} {l : List Q} {w : World} (ha : RatsAt w va l) (hb : RatsAt w vb l) :
    Calls Tryz.prog 63 #[va, vb] w fun e w' => e = .returned (.bool true) ∧ Below w.heap.size w w' := by
  have HA := Lib.hid ha
  have HB := Lib.hid hb
  have hlm := SliceOf.len ha
  obtain ⟨p, c, rfl⟩ := ha.shp
  obtain ⟨p', c', rfl⟩ := hb.shp
  obtain ⟨n, hn⟩ : ∃ n, l.length = n := ⟨_, rfl⟩
  have HN := Lib.hid hn
  rw [hn] at HA HB hlm ⊢
  clear ha hb hn
  have q0 : ((n : Int) != (n : Int)) = false := by simp
  go_enter Tryz.func63, Tryz.ntmps63
  go_wp2_with fail
  go_loopw [5] (fun iv wr => ∃ k : Nat, k ≤ n ∧ iv = .int .i64 k ∧ Below w.heap.size w wr) (fun iv _ => n - (intOf iv).toNat)
  case atStart => exact ⟨0, by omega, rfl, Below.refl _ _⟩
  case round =>
    obtain ⟨k, hk, rfl, hbel⟩ := hrel
    by_cases hlt : k < n
    · have hltz : (k : Int) < (n : Int) := by omega
      obtain ⟨q, hq⟩ : ∃ q, l.getD k (Q.of 0) = q := ⟨_, rfl⟩
      obtain ⟨b1, o1, p1, l1, k1, p2, l2, k2, e1, h1, h2, r1, r2, ca, cb, cc⟩ := (HA.out.keep hbel).cellsAt (by rw [HN.out]; exact hlt) hq
      obtain ⟨b2, o2, p3, l3, k3, p4, l4, k4, e2, h3, h4, r3, r4, cd, ce, cf⟩ := (HB.out.keep hbel).cellsAt (by rw [HN.out]; exact hlt) hq
      subst e1; subst e2
      have S0 : Hid (wr.drew.cell? ⟨b1, o1 + k * 3, none⟩ = some (.bool false) ∧ wr.drew.cell? ⟨b1, o1 + k * 3 + 1, none⟩ = some (.slice p1 l1 k1) ∧ wr.drew.cell? ⟨b1, o1 + k * 3 + 2, none⟩ = some (.slice p2 l2 k2) ∧ wr.drew.cell? ⟨b2, o2 + k * 3, none⟩ = some (.bool false) ∧ wr.drew.cell? ⟨b2, o2 + k * 3 + 1, none⟩ = some (.slice p3 l3 k3) ∧ wr.drew.cell? ⟨b2, o2 + k * 3 + 2, none⟩ = some (.slice p4 l4 k4)) := Lib.hid ⟨ca, cb, cc, cd, ce, cf⟩
      have hbd : Below wr.heap.size wr wr.drew := (Below.refl _ _).drew
      have EQ : Hid (Calls Tryz.prog 64 #[.agg #[.bool false, .slice p1 l1 k1, .slice p2 l2 k2], .agg #[.bool false, .slice p3 l3 k3, .slice p4 l4 k4]] wr.drew fun e w' => e = .returned (.bool true) ∧ Below wr.drew.heap.size wr.drew w') := Lib.hid (req_same (q := q) (ratR.keep ⟨_, _, _, _, _, _, rfl, r1, r2⟩ hbd) (ratR.keep ⟨_, _, _, _, _, _, rfl, r3, r4⟩ hbd))
      clear ca cb cc cd ce cf hq r1 r2 r3 r4
      go_wp2_with fail
      go_region_held3 (fun w' => w'.cell? ⟨b1, o1 + k * 3, none⟩ = some (.bool false) ∧ w'.cell? ⟨b1, o1 + k * 3 + 1, none⟩ = some (.slice p1 l1 k1) ∧ w'.cell? ⟨b1, o1 + k * 3 + 2, none⟩ = some (.slice p2 l2 k2) ∧ w'.cell? ⟨b2, o2 + k * 3, none⟩ = some (.bool false) ∧ w'.cell? ⟨b2, o2 + k * 3 + 1, none⟩ = some (.slice p3 l3 k3) ∧ w'.cell? ⟨b2, o2 + k * 3 + 2, none⟩ = some (.slice p4 l4 k4))
        (first | exact S1.out | exact S0.out)
        (first
          | (go_at_call 64; ((with_reducible refine EQ.out.mono ?_); rintro _ w1 ⟨rfl, hb1⟩; have hB1 := bel2' hbd hb1; have S1 := Lib.hid (six_keep hb1 S0.out))))
      all_goals
        go_wp2_with fail
        go_roundw
        case rel => exact ⟨k + 1, by omega, by go_num, bel2' hbel hB1⟩
        case measure => simp [intOf] <;> omega
    · obtain rfl : n = k := by omega
      have hltz : ¬ (n : Int) < (n : Int) := by omega
      go_wp2_with fail
      go_ret
      exact ⟨rfl, hbel⟩

/-- A round as it lies in cells. -/
structure RndV (w : World) (a b q1 q2 e1 e2 s1 s2 l1 l2 l3 : Value) (r : Rnd) : Prop where
  h : RndH w a b q1 q2 e1 e2 s1 s2 r
  el : IntsAt w l1 r.el
  ex : IntsAt w l2 r.ex
  ti : IntsAt w l3 r.ti
theorem RndV.keep {w w' : World} {a b q1 q2 e1 e2 s1 s2 l1 l2 l3 : Value} {r : Rnd} (h : RndV w a b q1 q2 e1 e2 s1 s2 l1 l2 l3 r) (hb : Below w.heap.size w w') : RndV w' a b q1 q2 e1 e2 s1 s2 l1 l2 l3 r :=
  ⟨⟨h.h.votes.keep hb, h.h.keep.keep hb, h.h.quota.keep hb, h.h.exh.keep hb, h.h.sur.keep hb⟩, h.el.keep hb, h.ex.keep hb, h.ti.keep hb⟩

set_option maxRecDepth 100000 in
set_option maxHeartbeats 8000000 in
theorem sameround_c {a b q1 q2 e1 e2 s1 s2 l1 l2 l3 a' b' q1' q2' e1' e2' s1' s2' l1' l2' l3' : Value} {r : Rnd} {w : World} (h1 : RndV w a b q1 q2 e1 e2 s1 s2 l1 l2 l3 r) (h2 : RndV w a' b' q1' q2' e1' e2' s1' s2' l1' l2' l3' r) :
    Calls Tryz.prog 40 #[.agg #[a, b, .bool false, q1, q2, .bool false, e1, e2, .bool false, s1, s2, l1, l2, l3], .agg #[a', b', .bool false, q1', q2', .bool false, e1', e2', .bool false, s1', s2', l1', l2', l3']] w fun e w' => e = .returned (.bool true) ∧ Below w.heap.size w w' := by
  have K1 := (Blk.new w #[a, b, .bool false, q1, q2, .bool false, e1, e2, .bool false, s1, s2, l1, l2, l3] 53).alloc (.cells #[a', b', .bool false, q1', q2', .bool false, e1', e2', .bool false, s1', s2', l1', l2', l3'] 53)
  have K2 := Blk.new (w.alloc (.cells #[a, b, .bool false, q1, q2, .bool false, e1, e2, .bool false, s1, s2, l1, l2, l3] 53)) #[a', b', .bool false, q1', q2', .bool false, e1', e2', .bool false, s1', s2', l1', l2', l3'] 53
  have hbW := below_al (below_al (Below.refl w.heap.size w) (.cells #[a, b, .bool false, q1, q2, .bool false, e1, e2, .bool false, s1, s2, l1, l2, l3] 53)) (.cells #[a', b', .bool false, q1', q2', .bool false, e1', e2', .bool false, s1', s2', l1', l2', l3'] 53)
  rw [show (w.alloc (.cells #[a, b, .bool false, q1, q2, .bool false, e1, e2, .bool false, s1, s2, l1, l2, l3] 53)).heap.size = w.heap.size + 1 by simp] at K2
  obtain ⟨W, hW⟩ : ∃ W, (w.alloc (.cells #[a, b, .bool false, q1, q2, .bool false, e1, e2, .bool false, s1, s2, l1, l2, l3] 53)).alloc (.cells #[a', b', .bool false, q1', q2', .bool false, e1', e2', .bool false, s1', s2', l1', l2', l3'] 53) = W := ⟨_, rfl⟩
  rw [hW] at K1 K2 hbW
  have H1 := h1.keep hbW
  have H2 := h2.keep hbW
  have SV := Lib.hid (fun wq (h : Below W.heap.size W wq) => samenums_c (H1.h.votes.keep h) (H2.h.votes.keep h))
  have SK := Lib.hid (fun wq (h : Below W.heap.size W wq) => samenums_c (H1.h.keep.keep h) (H2.h.keep.keep h))
  have EQ := Lib.hid (fun wq (h : Below W.heap.size W wq) => req_same (H1.h.quota.keep h) (H2.h.quota.keep h))
  have EX := Lib.hid (fun wq (h : Below W.heap.size W wq) => req_same (H1.h.exh.keep h) (H2.h.exh.keep h))
  have ES := Lib.hid (fun wq (h : Below W.heap.size W wq) => req_same (H1.h.sur.keep h) (H2.h.sur.keep h))
  have IQ : ∀ {wq : World} {va vb : Value} {l : List Int}, IntsAt wq va l → IntsAt wq vb l → Calls Tryz.prog 17 #[va, vb] wq fun e w' => e = .returned (.bool true) ∧ Below wq.heap.size wq w' := fun h1 h2 => by
    have := eq_c h1 h2
    rwa [decide_eq_true rfl] at this
  have IE := Lib.hid (fun wq (h : Below W.heap.size W wq) => IQ (H1.el.keep h) (H2.el.keep h))
  have IX := Lib.hid (fun wq (h : Below W.heap.size W wq) => IQ (H1.ex.keep h) (H2.ex.keep h))
  have IT := Lib.hid (fun wq (h : Below W.heap.size W wq) => IQ (H1.ti.keep h) (H2.ti.keep h))
  have x0 : W.cell? ⟨w.heap.size, 0, none⟩ = some a := K1.2.1 0
  have y0 : W.cell? ⟨w.heap.size + 1, 0, none⟩ = some a' := K2.2.1 0
  have K1 := Lib.hid K1
  have K2 := Lib.hid K2
  have HBW := Lib.hid hbW
  clear h1 h2 H1 H2 IQ hbW
  go_enter Tryz.func40, Tryz.ntmps40
  go_wp2_with (first
    | (go_at_call 63; ((with_reducible refine (SV.out _ (Below.refl _ _)).mono ?_); rintro _ w1 ⟨rfl, hb1⟩; have B1 := hb1; have x1 : w1.cell? ⟨w.heap.size, 1, none⟩ = some (b) := (K1.out.keep B1).2.1 1; have y1 : w1.cell? ⟨w.heap.size + 1, 1, none⟩ = some (b') := (K2.out.keep B1).2.1 1))
    | (go_at_call 63; ((with_reducible refine (SK.out _ B1).mono ?_); rintro _ w2 ⟨rfl, hb2⟩; have B2 := bel2' B1 hb2; have x2 : w2.cell? ⟨w.heap.size, 2, none⟩ = some (.bool false) := (K1.out.keep B2).2.1 2; have y2 : w2.cell? ⟨w.heap.size + 1, 2, none⟩ = some (.bool false) := (K2.out.keep B2).2.1 2; have x3 : w2.cell? ⟨w.heap.size, 3, none⟩ = some (q1) := (K1.out.keep B2).2.1 3; have y3 : w2.cell? ⟨w.heap.size + 1, 3, none⟩ = some (q1') := (K2.out.keep B2).2.1 3; have x4 : w2.cell? ⟨w.heap.size, 4, none⟩ = some (q2) := (K1.out.keep B2).2.1 4; have y4 : w2.cell? ⟨w.heap.size + 1, 4, none⟩ = some (q2') := (K2.out.keep B2).2.1 4))
    | (go_at_call 64; ((with_reducible refine (EQ.out _ B2).mono ?_); rintro _ w3 ⟨rfl, hb3⟩; have B3 := bel2' B2 hb3; have x5 : w3.cell? ⟨w.heap.size, 5, none⟩ = some (.bool false) := (K1.out.keep B3).2.1 5; have y5 : w3.cell? ⟨w.heap.size + 1, 5, none⟩ = some (.bool false) := (K2.out.keep B3).2.1 5; have x6 : w3.cell? ⟨w.heap.size, 6, none⟩ = some (e1) := (K1.out.keep B3).2.1 6; have y6 : w3.cell? ⟨w.heap.size + 1, 6, none⟩ = some (e1') := (K2.out.keep B3).2.1 6; have x7 : w3.cell? ⟨w.heap.size, 7, none⟩ = some (e2) := (K1.out.keep B3).2.1 7; have y7 : w3.cell? ⟨w.heap.size + 1, 7, none⟩ = some (e2') := (K2.out.keep B3).2.1 7))
    | (go_at_call 64; ((with_reducible refine (EX.out _ B3).mono ?_); rintro _ w4 ⟨rfl, hb4⟩; have B4 := bel2' B3 hb4; have x8 : w4.cell? ⟨w.heap.size, 8, none⟩ = some (.bool false) := (K1.out.keep B4).2.1 8; have y8 : w4.cell? ⟨w.heap.size + 1, 8, none⟩ = some (.bool false) := (K2.out.keep B4).2.1 8; have x9 : w4.cell? ⟨w.heap.size, 9, none⟩ = some (s1) := (K1.out.keep B4).2.1 9; have y9 : w4.cell? ⟨w.heap.size + 1, 9, none⟩ = some (s1') := (K2.out.keep B4).2.1 9; have x10 : w4.cell? ⟨w.heap.size, 10, none⟩ = some (s2) := (K1.out.keep B4).2.1 10; have y10 : w4.cell? ⟨w.heap.size + 1, 10, none⟩ = some (s2') := (K2.out.keep B4).2.1 10))
    | (go_at_call 64; ((with_reducible refine (ES.out _ B4).mono ?_); rintro _ w5 ⟨rfl, hb5⟩; have B5 := bel2' B4 hb5; have x11 : w5.cell? ⟨w.heap.size, 11, none⟩ = some (l1) := (K1.out.keep B5).2.1 11; have y11 : w5.cell? ⟨w.heap.size + 1, 11, none⟩ = some (l1') := (K2.out.keep B5).2.1 11))
    | (go_at_call 17; ((with_reducible refine (IE.out _ B5).mono ?_); rintro _ w6 ⟨rfl, hb6⟩; have B6 := bel2' B5 hb6; have x12 : w6.cell? ⟨w.heap.size, 12, none⟩ = some (l2) := (K1.out.keep B6).2.1 12; have y12 : w6.cell? ⟨w.heap.size + 1, 12, none⟩ = some (l2') := (K2.out.keep B6).2.1 12))
    | (go_at_call 17; ((with_reducible refine (IX.out _ B6).mono ?_); rintro _ w7 ⟨rfl, hb7⟩; have B7 := bel2' B6 hb7; have x13 : w7.cell? ⟨w.heap.size, 13, none⟩ = some (l3) := (K1.out.keep B7).2.1 13; have y13 : w7.cell? ⟨w.heap.size + 1, 13, none⟩ = some (l3') := (K2.out.keep B7).2.1 13))
    | (go_at_call 17; ((with_reducible refine (IT.out _ B7).mono ?_); rintro _ w8 ⟨rfl, hb8⟩; have B8 := bel2' B7 hb8)))
  go_ret
  exact ⟨rfl, bel2' HBW.out B8⟩

end Go.Proofs.YtbnhgmikegdppaaGreat

/- IrvBlank: the plain law. -/
namespace Go.Proofs.Nums

theorem first_empty (R : Int → Bool) : firstC R [] = -1 := rfl
theorem blank_wt {gs : List Grp} {K : Int} (R : Int → Bool) {c : Int} (hc : c ≠ -1) : wt R (addS gs [] K) c = wt R gs c := by
  unfold wt
  rw [sumF_add, if_neg, Int.add_zero]
  rw [first_empty, decide_eq_true_iff]
  exact fun e => hc e.symm
theorem blank_rest {gs : List Grp} {K : Int} (rem : List Bool) : restS (addS gs [] K) rem = restS gs rem + K := by
  unfold restS wt
  rw [sumF_add, if_pos]
  rw [first_empty]
  rfl
theorem blank_votes {gs : List Grp} {K : Int} (rem : List Bool) : votesS (addS gs [] K) rem = votesS gs rem := by
  unfold votesS
  exact List.map_congr_left fun i _ => blank_wt _ (by omega)
theorem blank_low {gs : List Grp} {K : Int} (rem : List Bool) : lowS (addS gs [] K) rem = lowS gs rem := by
  refine sorted_ext (low_sorted _ _) (low_sorted _ _) fun x => ?_
  rw [mem_low, mem_low]
  unfold Low
  have hr : ∀ d, remB rem d = true → wt (remB rem) (addS gs [] K) d = wt (remB rem) gs d := fun d hd => blank_wt _ (by have := remB_lt hd; omega)
  constructor
  · rintro ⟨h1, h2⟩
    exact ⟨h1, fun d hd => by have := h2 d hd; rwa [hr x h1, hr d hd] at this⟩
  · rintro ⟨h1, h2⟩
    exact ⟨h1, fun d hd => by rw [hr x h1, hr d hd]; exact h2 d hd⟩
theorem find_congr {p q : Int → Bool} : ∀ {l : List Int}, (∀ x ∈ l, p x = q x) → l.find? p = l.find? q
  | [], _ => rfl
  | x :: l, h => by
    have hx := h x (List.mem_cons_self ..)
    have ih := find_congr (l := l) fun y hy => h y (List.mem_cons_of_mem _ hy)
    cases e : q x with
    | true => rw [List.find?_cons_of_pos (by rw [hx, e]), List.find?_cons_of_pos e]
    | false => rw [List.find?_cons_of_neg (by rw [hx, e]; simp), List.find?_cons_of_neg (by rw [e]; simp), ih]
def moreR (K : Int) (r : Rnd) : Rnd := ⟨r.votes, r.keep, r.quota, r.exh + K, r.el, r.ex, r.ti⟩
theorem blank_count {whole : Bool} {brk : List (List Int) → List Int → Int} {gs : List Grp} {K : Int} : ∀ (m : Nat) (rem : List Bool) (ear : List (List Int)), countS whole brk (addS gs [] K) m rem ear = (countS whole brk gs m rem ear).map (moreR K)
  | 0, _, _ => rfl
  | m + 1, rem, ear => by
    have hq : quotaS (addS gs [] K) rem = quotaS gs rem := by unfold quotaS; rw [blank_votes]
    have hw : (aliveS rem).find? (wins whole (addS gs [] K) rem) = (aliveS rem).find? (wins whole gs rem) := find_congr fun x hx => by
      unfold wins
      rw [hq, blank_wt _ (by have := remB_lt (mem_alive.1 hx); omega)]
    have hx : exclS brk (addS gs [] K) rem ear = exclS brk gs rem ear := by unfold exclS; rw [blank_low]
    have ht : tiedW (addS gs [] K) rem = tiedW gs rem := by unfold tiedW; rw [blank_low]
    have hm : ∀ a b c, mkR (addS gs [] K) rem a b c = moreR K (mkR gs rem a b c) := fun a b c => by
      unfold mkR moreR
      rw [blank_votes, hq, blank_rest]
    unfold countS
    rw [hw]
    cases (aliveS rem).find? (wins whole gs rem) with
    | some w =>
      simp only [List.map_cons, List.map_nil]
      rw [hm]
    | none =>
      simp only [List.map_cons]
      rw [hm, hx, ht, blank_votes, blank_count m]

theorem count_exh {whole : Bool} {brk : List (List Int) → List Int → Int} {gs : List Grp} {n : Int} (hp : PileP n gs) : ∀ {m : Nat} {rem : List Bool} {ear : List (List Int)}, ∀ r ∈ countS whole brk gs m rem ear, 0 ≤ r.exh ∧ r.exh ≤ 100000
  | 0, _, _, r, hr => by simp [countS] at hr
  | m + 1, rem, ear, r, hr => by
    unfold countS at hr
    split at hr
    · rw [List.mem_singleton] at hr
      subst hr
      exact rest_rng hp
    · rcases List.mem_cons.1 hr with rfl | hr
      · exact rest_rng hp
      · exact count_exh hp r hr

end Go.Proofs.Nums

/- IrvBlank: the walk. -/
namespace Go.Proofs.YtbnhgmikegdppaaGreat
open Go.RowKit Go.Proofs.Kit Go.Proofs.Nums

theorem lots_perm (n : Nat) (code : Int) : Lots n (permS n code) := ⟨perm_bal n code, perm_len n code⟩
theorem rndR_keep {w w' : World} {c : List Value} {r : Rnd} (h : rndR w c r) (hb : Below w.heap.size w w') : rndR w' c r := by
  obtain ⟨a, b, q1, q2, e1, e2, s1, s2, l1, l2, l3, e, g, i1, i2, i3⟩ := h
  exact ⟨a, b, q1, q2, e1, e2, s1, s2, l1, l2, l3, e, ⟨g.votes.keep hb, g.keep.keep hb, g.quota.keep hb, g.exh.keep hb, g.sur.keep hb⟩, i1.keep hb, i2.keep hb, i3.keep hb⟩
def RndsAt (w : World) (v : Value) (R : List Rnd) : Prop := SliceOf rndR 14 w v R
theorem RndsAt.keep {w w' : World} {v : Value} {R : List Rnd} (h : RndsAt w v R) (hb : Below w.heap.size w w') : RndsAt w' v R := SliceOf.keep h hb fun _ _ g => rndR_keep g hb
def RndC (w : World) (g o : Nat) (a b q1 q2 e1 e2 s1 s2 l1 l2 l3 : Value) : Prop := w.cell? ⟨g, o, none⟩ = some (a) ∧ w.cell? ⟨g, o + 1, none⟩ = some (b) ∧ w.cell? ⟨g, o + 2, none⟩ = some (.bool false) ∧ w.cell? ⟨g, o + 3, none⟩ = some (q1) ∧ w.cell? ⟨g, o + 4, none⟩ = some (q2) ∧ w.cell? ⟨g, o + 5, none⟩ = some (.bool false) ∧ w.cell? ⟨g, o + 6, none⟩ = some (e1) ∧ w.cell? ⟨g, o + 7, none⟩ = some (e2) ∧ w.cell? ⟨g, o + 8, none⟩ = some (.bool false) ∧ w.cell? ⟨g, o + 9, none⟩ = some (s1) ∧ w.cell? ⟨g, o + 10, none⟩ = some (s2) ∧ w.cell? ⟨g, o + 11, none⟩ = some (l1) ∧ w.cell? ⟨g, o + 12, none⟩ = some (l2) ∧ w.cell? ⟨g, o + 13, none⟩ = some (l3)
theorem rnd_at {w : World} {p : Option Addr} {n c k : Nat} {R : List Rnd} {r : Rnd} (h : RndsAt w (.slice p n c) R) (hr : R[k]? = some r) :
    ∃ g off a b q1 q2 e1 e2 s1 s2 l1 l2 l3, p = some ⟨g, off, none⟩ ∧ n = R.length ∧ R.length ≤ c ∧ c ≤ 9223372036854775807 ∧ RndV w a b q1 q2 e1 e2 s1 s2 l1 l2 l3 r ∧ RndC w g (off + k * 14) a b q1 q2 e1 e2 s1 s2 l1 l2 l3 := by
  have hk := (List.getElem?_eq_some_iff.1 hr).1
  obtain ⟨g, off, cap, cs, e, h1, h2, h3, h4, h5⟩ := SliceOf.at_ (by omega) h hk
  simp only [Value.slice.injEq] at e
  obtain ⟨rfl, rfl, rfl⟩ := e
  have e2 : R[k] = r := by rw [List.getElem?_eq_getElem hk] at hr; simpa using hr
  rw [e2] at h4
  obtain ⟨a, b, q1, q2, e1, e2, s1, s2, l1, l2, l3, rfl, g1, g2, g3, g4⟩ := h4
  have hc : ∀ j u, (rndA a b q1 q2 e1 e2 s1 s2 l1 l2 l3).toList[j]? = some u → w.cell? ⟨g, off + k * 14 + j, none⟩ = some u := fun j u hu => by rw [Nat.add_assoc]; exact h5 j u hu
  exact ⟨g, off, a, b, q1, q2, e1, e2, s1, s2, l1, l2, l3, rfl, rfl, h1, h2, ⟨g1, g2, g3, g4⟩, hc 0 _ rfl, hc 1 _ rfl, hc 2 _ rfl, hc 3 _ rfl, hc 4 _ rfl, hc 5 _ rfl, hc 6 _ rfl, hc 7 _ rfl, hc 8 _ rfl, hc 9 _ rfl, hc 10 _ rfl, hc 11 _ rfl, hc 12 _ rfl, hc 13 _ rfl⟩
theorem RndC.keep {w w' : World} {g o : Nat} {a b q1 q2 e1 e2 s1 s2 l1 l2 l3 : Value} (h : RndC w g o a b q1 q2 e1 e2 s1 s2 l1 l2 l3) (hb : Below w.heap.size w w') : RndC w' g o a b q1 q2 e1 e2 s1 s2 l1 l2 l3 := by
  obtain ⟨c0, c1, c2, c3, c4, c5, c6, c7, c8, c9, c10, c11, c12, c13⟩ := h
  exact ⟨cell_keep hb c0, cell_keep hb c1, cell_keep hb c2, cell_keep hb c3, cell_keep hb c4, cell_keep hb c5, cell_keep hb c6, cell_keep hb c7, cell_keep hb c8, cell_keep hb c9, cell_keep hb c10, cell_keep hb c11, cell_keep hb c12, cell_keep hb c13⟩
theorem blk_pair (w : World) (A B : Array Value) (T U : TypeId) : Blk w.heap.size A ((w.alloc (.cells A T)).alloc (.cells B U)).drew ∧ Blk (w.heap.size + 1) B ((w.alloc (.cells A T)).alloc (.cells B U)).drew ∧ Below w.heap.size w ((w.alloc (.cells A T)).alloc (.cells B U)).drew := by
  refine ⟨((Blk.new w A T).alloc _).drew, ?_, (below_al (below_al (Below.refl _ _) _) _).drew⟩
  have h := Blk.new (w.alloc (.cells A T)) B U
  rw [show (w.alloc (.cells A T)).heap.size = w.heap.size + 1 by simp] at h
  exact h.drew

theorem blk_off {b c : Nat} {cs : Array Value} {w : World} (h : Blk c cs w) (hne : c ≠ b) (j : Nat) (v : Value) : Blk c cs (w.setCell ⟨b, j, none⟩ v) :=
  h.off (Below.heap_setCell _ _ _ _ (by exact hne)) (by simp)
theorem rndv_sh {w : World} {a b q1 q2 e1 e2 s1 s2 l1 l2 l3 : Value} {r : Rnd} (h : RndV w a b q1 q2 e1 e2 s1 s2 l1 l2 l3 r) : ∃ pa na ca pb nb cb pq1 nq1 cq1 pq2 nq2 cq2 pe1 ne1 ce1 pe2 ne2 ce2 ps1 ns1 cs1 ps2 ns2 cs2 pl1 nl1 cl1 pl2 nl2 cl2 pl3 nl3 cl3, a = .slice pa na ca ∧ b = .slice pb nb cb ∧ q1 = .slice pq1 nq1 cq1 ∧ q2 = .slice pq2 nq2 cq2 ∧ e1 = .slice pe1 ne1 ce1 ∧ e2 = .slice pe2 ne2 ce2 ∧ s1 = .slice ps1 ns1 cs1 ∧ s2 = .slice ps2 ns2 cs2 ∧ l1 = .slice pl1 nl1 cl1 ∧ l2 = .slice pl2 nl2 cl2 ∧ l3 = .slice pl3 nl3 cl3 := by
  obtain ⟨pa, ca, ea, _, _⟩ := h.h.votes.shape
  obtain ⟨pb, cb, eb, _, _⟩ := h.h.keep.shape
  obtain ⟨p1, m1, c1, p2, m2, c2, e1, _⟩ := h.h.quota
  obtain ⟨p3, m3, c3, p4, m4, c4, e2, _⟩ := h.h.exh
  obtain ⟨p5, m5, c5, p6, m6, c6, e3, _⟩ := h.h.sur
  obtain ⟨p7, c7, e4⟩ := h.el.shape
  obtain ⟨p8, c8, e5⟩ := h.ex.shape
  obtain ⟨p9, c9, e6⟩ := h.ti.shape
  simp only [List.cons.injEq, and_true, true_and] at e1 e2 e3
  exact ⟨_, _, _, _, _, _, _, _, _, _, _, _, _, _, _, _, _, _, _, _, _, _, _, _, _, _, _, _, _, _, _, _, _, ea, eb, e1.1, e1.2, e2.1, e2.2, e3.1, e3.2, e4, e5, e6⟩
theorem blk14_off {b c : Nat} {w : World} {cs : Array Value} (h : Blk c cs w) (hne : c ≠ b) (y0 y1 y2 y3 y4 y5 y6 y7 y8 y9 y10 y11 y12 y13 : Value) : Blk c cs ((((((((((((((w.setCell ⟨b, 0, none⟩ y0).setCell ⟨b, 1, none⟩ y1).setCell ⟨b, 2, none⟩ y2).setCell ⟨b, 3, none⟩ y3).setCell ⟨b, 4, none⟩ y4).setCell ⟨b, 5, none⟩ y5).setCell ⟨b, 6, none⟩ y6).setCell ⟨b, 7, none⟩ y7).setCell ⟨b, 8, none⟩ y8).setCell ⟨b, 9, none⟩ y9).setCell ⟨b, 10, none⟩ y10).setCell ⟨b, 11, none⟩ y11).setCell ⟨b, 12, none⟩ y12).setCell ⟨b, 13, none⟩ y13) :=
  (blk_off (blk_off (blk_off (blk_off (blk_off (blk_off (blk_off (blk_off (blk_off (blk_off (blk_off (blk_off (blk_off (blk_off h hne 0 y0) hne 1 y1) hne 2 y2) hne 3 y3) hne 4 y4) hne 5 y5) hne 6 y6) hne 7 y7) hne 8 y8) hne 9 y9) hne 10 y10) hne 11 y11) hne 12 y12) hne 13 y13)
theorem below3 {n b : Nat} {w0 w : World} (h : Below n w0 w) (hn : n ≤ b) (x y z : Value) : Below n w0 (((w.setCell ⟨b, 5, none⟩ x).setCell ⟨b, 6, none⟩ y).setCell ⟨b, 7, none⟩ z) :=
  Below.setCell (p := ⟨b, 7, none⟩) (Below.setCell (p := ⟨b, 6, none⟩) (Below.setCell (p := ⟨b, 5, none⟩) h hn x) hn y) hn z
theorem blk6 {b : Nat} {w : World} {x0 x1 x2 x3 x4 x5 : Value} (h : Blk b #[x0, x1, x2, x3, x4, x5] w) (y0 y1 y2 y3 y4 y5 : Value) :
    Blk b #[y0, y1, y2, y3, y4, y5] ((((((w.setCell ⟨b, 0, none⟩ y0).setCell ⟨b, 1, none⟩ y1).setCell ⟨b, 2, none⟩ y2).setCell ⟨b, 3, none⟩ y3).setCell ⟨b, 4, none⟩ y4).setCell ⟨b, 5, none⟩ y5) :=
  blk_put (blk_put (blk_put (blk_put (blk_put (blk_put h (o := 0) (by simp) y0) (o := 1) (by simp) y1) (o := 2) (by simp) y2) (o := 3) (by simp) y3) (o := 4) (by simp) y4) (o := 5) (by simp) y5
theorem blank_fin {W7 w9 : World} {F B9 : Nat} {x0 x1 x2 x3 x4 x5 y0 y1 y2 y3 y4 y5 vr vw : Value} {R : List Rnd} {x : Int} (hK : Blk F #[x0, x1, x2, x3, x4, x5] w9) (h1 : Made B9 (fun w => RndsAt w vr R) w9) (h2 : Made B9 (fun w => IntsAt w vw [x]) w9) (hF : F < B9) (hW : W7.heap.size ≤ F) (hb : Below W7.heap.size W7 w9) :
    Blk F #[y0, y1, y2, y3, y4, y5] ((((((w9.setCell ⟨F, 0, none⟩ y0).setCell ⟨F, 1, none⟩ y1).setCell ⟨F, 2, none⟩ y2).setCell ⟨F, 3, none⟩ y3).setCell ⟨F, 4, none⟩ y4).setCell ⟨F, 5, none⟩ y5) ∧ RndsAt ((((((w9.setCell ⟨F, 0, none⟩ y0).setCell ⟨F, 1, none⟩ y1).setCell ⟨F, 2, none⟩ y2).setCell ⟨F, 3, none⟩ y3).setCell ⟨F, 4, none⟩ y4).setCell ⟨F, 5, none⟩ y5) vr R ∧
      IntsAt ((((((w9.setCell ⟨F, 0, none⟩ y0).setCell ⟨F, 1, none⟩ y1).setCell ⟨F, 2, none⟩ y2).setCell ⟨F, 3, none⟩ y3).setCell ⟨F, 4, none⟩ y4).setCell ⟨F, 5, none⟩ y5) vw [x] ∧ Below W7.heap.size W7 ((((((w9.setCell ⟨F, 0, none⟩ y0).setCell ⟨F, 1, none⟩ y1).setCell ⟨F, 2, none⟩ y2).setCell ⟨F, 3, none⟩ y3).setCell ⟨F, 4, none⟩ y4).setCell ⟨F, 5, none⟩ y5) := by
  have hh : ∀ b, B9 ≤ b ∧ b < w9.heap.size → ((((((w9.setCell ⟨F, 0, none⟩ y0).setCell ⟨F, 1, none⟩ y1).setCell ⟨F, 2, none⟩ y2).setCell ⟨F, 3, none⟩ y3).setCell ⟨F, 4, none⟩ y4).setCell ⟨F, 5, none⟩ y5).heap[b]? = w9.heap[b]? := fun b hb' => by
    have hne : b ≠ F := by omega
    rw [Below.heap_setCell _ _ _ _ (by exact hne), Below.heap_setCell _ _ _ _ (by exact hne), Below.heap_setCell _ _ _ _ (by exact hne), Below.heap_setCell _ _ _ _ (by exact hne), Below.heap_setCell _ _ _ _ (by exact hne), Below.heap_setCell _ _ _ _ (by exact hne)]
  have one : ∀ {w2 : World} (j : Nat) (v : Value), Below W7.heap.size W7 w2 → Below W7.heap.size W7 (w2.setCell ⟨F, j, none⟩ v) := fun {w2} j v h => h.setCell (p := ⟨F, j, none⟩) hW v
  exact ⟨blk6 hK _ _ _ _ _ _, h1 _ hh, h2 _ hh, one _ _ (one _ _ (one _ _ (one _ _ (one _ _ (one _ _ hb)))))⟩

/-- A count that ends, with its winner and the rounds. -/
theorem count_x {p : Option Addr} {c k : Nat} {T : Int} {vg vl : Value} {gs : List Grp} {lots : List Int} {w : World} (hg : PileAt w vg gs) (hl : IntsAt w vl lots) (h1 : 1 ≤ k) (h7 : k ≤ 7) (t1 : 1 ≤ T) (t3 : T ≤ 3) (hp : PileP k gs) (hlt : Lots k lots) :
    Calls Tryz.prog 12 #[.agg #[.string ⟨#[99]⟩, .slice p k c, .int .i64 1, .int .i64 1, .int .i64 0, .int .i64 0, .int .i64 T, .int .i64 0, .int .i64 0], vg, vl] w fun e w' => ∃ pr nr cr pw cw x, e = .returned (.tuple #[.agg #[.int .i64 1, .int .i64 1, .int .i64 0, .int .i64 k, .slice pr nr cr, .slice pw 1 cw], .int .i64 0]) ∧
      nr = (countS false (brkS T lots) gs k (List.replicate k true) []).length ∧ Made w.heap.size (fun w => RndsAt w (.slice pr nr cr) (countS false (brkS T lots) gs k (List.replicate k true) [])) w' ∧ Made w.heap.size (fun w => IntsAt w (.slice pw 1 cw) [x]) w' ∧ Hid (∃ r ∈ (countS false (brkS T lots) gs k (List.replicate k true) []).getLast?, r.el = [x]) ∧ Below w.heap.size w w' := by
  refine (count_c (C := conM p k c T) hg hl (okA h1 h7 t1 t3 hp hlt)).mono ?_
  rintro e w' ⟨vr, vw, x, rfl, g1, g2, g3, g4⟩
  obtain ⟨pr, cr, rfl, _, _⟩ := g1.now.shape
  obtain ⟨pw, cw, rfl⟩ := g2.now.shape
  exact ⟨pr, _, cr, pw, cw, x, rfl, rfl, g1, g2, g3, g4⟩
theorem count_len {whole : Bool} {brk : List (List Int) → List Int → Int} {gs : List Grp} : ∀ (m : Nat) (rem : List Bool) (ear : List (List Int)), (countS whole brk gs m rem ear).length ≤ m
  | 0, _, _ => Nat.le_refl _
  | m + 1, rem, ear => by
    unfold countS
    split
    · simp
    · simp only [List.length_cons]
      have := count_len (whole := whole) (brk := brk) (gs := gs) m (rem.set (exclS brk gs rem ear).toNat false) (ear ++ [votesS gs rem])
      omega

theorem mod_one20 (x : Int) : ∃ k : Nat, 1 + x % 20 = (k : Int) ∧ 1 ≤ k ∧ k ≤ 20 := ⟨(1 + x % 20).toNat, by omega, by omega, by omega⟩

end Go.Proofs.YtbnhgmikegdppaaGreat
