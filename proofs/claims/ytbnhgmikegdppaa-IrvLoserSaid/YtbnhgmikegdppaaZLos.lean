/- The statement IrvLoser: for every input the law returns true and its arguments read as before. No condition. -/
import Derived.Test.YtbnhgmikegdppaaQO
import Derived.WalkKit
import Derived.ProofKit
import Derived.OpenShut
import Derived.ShutString
import Derived.ChangeOld
import Derived.Below
/- IrvLoser: the plain law; a pile is copied. -/
namespace Go.Proofs.Nums

theorem pair_place (a b : Int) (hab : a ≠ b) : ∀ p : List Int, p.find? (pair a b) = some a ↔ placeN p a < placeN p b
  | [] => by simp [placeN]
  | y :: p => by
    unfold placeN
    by_cases h1 : y = a
    · subst h1
      rw [List.find?_cons_of_pos (by unfold pair; simp), if_pos rfl, if_neg hab]
      simp
    · by_cases h2 : y = b
      · subst h2
        rw [List.find?_cons_of_pos (by unfold pair; simp), if_pos rfl, if_neg h1]
        simp only [Option.some.injEq]
        constructor
        · intro e; exact absurd e h1
        · intro e; exact absurd e (Nat.not_lt_zero _)
      · rw [List.find?_cons_of_neg (by unfold pair; simp [h1, h2]), if_neg h1, if_neg h2, pair_place a b hab p]
        omega
theorem pair_wt {gs : List Grp} {a b : Int} (hab : a ≠ b) (h1 : a ≠ -1) : wt (pair a b) gs a = prefS gs a b := by
  unfold wt prefS
  refine sumF_congr fun g _ => ?_
  rw [decide_eq_decide, first_iff h1, pair_place a b hab]
theorem pair_swap (a b : Int) : pair a b = pair b a := by
  funext d
  unfold pair
  rw [Bool.or_comm]
theorem loser_out {n : Nat} {gs : List Grp} {x : Int} (hn : 2 ≤ n) (h : ∀ y : Int, 0 ≤ y → y < n → y ≠ x → prefS gs x y < prefS gs y x) : ¬ x ∈ possS n gs := by
  intro hx
  obtain ⟨h0, h1, hr⟩ := mem_poss.1 hx
  obtain ⟨y, hyx, hy0, hyn, hle⟩ := last_step (by omega) hr
  have := h y hy0 hyn hyx
  rw [pair_wt (gs := gs) (a := x) (b := y) (by omega) (by omega), pair_swap, pair_wt (gs := gs) (a := y) (b := x) hyx (by omega)] at hle
  omega
theorem poss_ne0 {n : Nat} {gs : List Grp} (h1 : 1 ≤ n) (h7 : n ≤ 7) : possS n gs ≠ [] := by
  obtain ⟨w, _, hr⟩ := order_can (brk := brkS 3 (permS n 0)) (gs := gs) (n := (n : Int)) n (List.replicate n true) [] (by rw [List.length_replicate]; exact brk_in ⟨perm_bal n 0, perm_len n 0⟩ (by omega) (by omega) h1 h7) (by rw [alive_all_len]; exact Nat.le_refl _) (fun e => by have := alive_all_len n; rw [e] at this; simp at this; omega) (by rw [rem_full]; exact Rch.full)
  have hw := hr.range w (by unfold single; simp)
  exact List.ne_nil_of_mem (mem_poss.2 ⟨hw.1, hw.2, hr⟩)
theorem major_one {n : Nat} {gs : List Grp} {x : Int} (h1 : 1 ≤ n) (h7 : n ≤ 7) (hp : PosG gs) (hx : 0 ≤ x ∧ x < (n : Int)) (hm : markedS gs < 2 * wt (fun c => decide (0 ≤ c ∧ c < (n : Int))) gs x) : possS n gs = [x] := by
  have hne := poss_ne0 (gs := gs) h1 h7
  refine sorted_ext (poss_sorted n gs) (List.pairwise_singleton _ _) fun c => ?_
  rw [List.mem_singleton]
  have hall : ∀ c, c ∈ possS n gs → c = x := fun c hc => maj_wins hp hx hm (mem_poss.1 hc).2.2
  constructor
  · exact hall c
  · rintro rfl
    obtain ⟨d, hd⟩ := List.exists_mem_of_ne_nil _ hne
    rw [← hall d hd]
    exact hd
theorem marked_tot {gs : List Grp} (hp : PosG gs) : markedS gs ≤ totS gs := by
  unfold markedS totS
  exact sumF_le hp fun _ _ _ => rfl
theorem votes_full {gs : List Grp} {n x : Nat} (hx : x < n) : (votesS gs (List.replicate n true)).getD x 0 = wt (fun c => decide (0 ≤ c ∧ c < (n : Int))) gs x := by
  have := votes_get (gs := gs) (rem := List.replicate n true) (c := (x : Int)) (by omega) (by rw [List.length_replicate]; omega)
  rw [Int.toNat_natCast, rem_full] at this
  exact this
/-- With k more ballots for x alone. -/
theorem more_one {n : Nat} {gs : List Grp} {x : Int} {K : Int} (h1 : 1 ≤ n) (h7 : n ≤ 7) (hp : PosG gs) (hx : 0 ≤ x ∧ x < (n : Int)) (hK : totS gs < K) : possS n (addS gs [x] K) = [x] := by
  have ht := sumF_nn (f := fun _ => true) hp
  have hpa := hp.add [x] (k := K) (by unfold totS at hK; omega)
  refine major_one h1 h7 hpa hx ?_
  have hm : markedS (addS gs [x] K) = markedS gs + K := by
    unfold markedS
    rw [sumF_add, if_pos (show (![x].isEmpty) = true from rfl)]
  have hw : wt (fun c => decide (0 ≤ c ∧ c < (n : Int))) (addS gs [x] K) x = wt (fun c => decide (0 ≤ c ∧ c < (n : Int))) gs x + K := by
    unfold wt
    rw [sumF_add, if_pos]
    rw [decide_eq_true_iff, first_iff (by omega)]
    exact List.find?_cons_of_pos (p := fun c : Int => decide (0 ≤ c ∧ c < (n : Int))) (decide_eq_true hx)
  have h0 : 0 ≤ wt (fun c => decide (0 ≤ c ∧ c < (n : Int))) gs x := sumF_nn hp
  have := marked_tot hp
  rw [hm, hw]
  omega
/-- Whether x loses against those below j. -/
def losB (gs : List Grp) (x : Nat) : Nat → Bool
  | 0 => true
  | j + 1 => losB gs x j && (decide (x = j) || decide (prefS gs x j < prefS gs j x))
theorem losB_iff {gs : List Grp} {x : Nat} : ∀ {j : Nat}, losB gs x j = true ↔ ∀ d : Nat, d < j → d ≠ x → prefS gs x d < prefS gs d x
  | 0 => ⟨fun _ d hd => absurd hd (Nat.not_lt_zero d), fun _ => rfl⟩
  | j + 1 => by
    unfold losB
    rw [Bool.and_eq_true, losB_iff (j := j), Bool.or_eq_true, decide_eq_true_iff, decide_eq_true_iff]
    constructor
    · rintro ⟨h1, h2⟩ d hd hne
      by_cases e : d = j
      · subst e
        rcases h2 with h2 | h2
        · exact absurd h2.symm hne
        · exact h2
      · exact h1 d (by omega) hne
    · intro h
      refine ⟨fun d hd => h d (by omega), ?_⟩
      by_cases e : x = j
      · exact .inl e
      · exact .inr (h j (by omega) (fun g => e g.symm))
theorem los_out {n x : Nat} {gs : List Grp} (hn : 2 ≤ n) (h : losB gs x n = true) : hasB (possS n gs) x = false := by
  refine hasB_false.2 (loser_out hn fun y h0 h1 hne => ?_)
  have := losB_iff.1 h y.toNat (by omega) (by omega)
  rwa [Int.toNat_of_nonneg h0] at this

end Go.Proofs.Nums
namespace Go.Proofs.Ytbnhgmikegdppaa
open Go.RowKit Go.Proofs.Kit Go.Proofs.Nums

/-- append([]api.Group(nil), gs...) -/
theorem append_pile {ops : Array Oper} {rest : List Oper} {o : Oper} {a : Act} {Q0 : Exit → Act → World → Prop} {w : World} (hgd : Region.wanted o (yielded ops a.tmps) = true) {s x : Operand}
    (ho : o.op = .call { callee := .builtin .append, args := #[s, x], argTypes := #[22, 22] }) (hs : a.eval s = .slice none 0 0)
    {v : Value} {gs : List Grp} (hv : PileAt w v gs) (hx : a.eval x = v) (hl : gs.length ≤ 1000000)
    (h : ∀ v' w', PileAt w' v' gs → Below w.heap.size w w' → wpList Try.prog ops Q0 rest (a.put o.dst v') w') : wpList Try.prog ops Q0 (o :: rest) a w := by
  have hv0 := hv
  obtain ⟨css, p, cap, rfl, h1, h2, h3, h4, h5, h6, h7⟩ := hv
  cases p with
  | none =>
    have hc := h3 rfl
    subst hc
    have hz : gs.length = 0 := by omega
    refine append_nil erG hgd ho (World.ownsRow_nil w w.heap.size _ _) hs (by rw [hx, hz]) (h _ w ?_ (Below.refl _ _))
    have : gs = [] := List.eq_nil_of_length_eq_zero hz
    subst this
    exact SliceOf.nil w
  | some q =>
    refine append_row erG (base := w.heap.size) (n := 0) (xs := []) (news := css.flatten) hgd ho (World.ownsRow_nil w w.heap.size _ _) hs hx (by rw [flat_len h5, h4]) (fun j u hj => ?_) (fun u hu => ?_) (by omega) (by omega) (Nat.le_refl _) fun v' w' ho' _ hb' => h v' w' ?_ hb'
    · have hjl := (List.getElem?_eq_some_iff.1 hj).1
      rw [flat_len h5] at hjl
      have hi : j / 2 < css.length := by omega
      have hc := List.getElem?_eq_getElem hi
      have hcl := h5 _ (List.getElem_mem hi)
      have hr : j % 2 < css[j / 2].length := by omega
      have hu := List.getElem?_eq_getElem hr
      have hf := flat_at h5 hc hu
      have e : j / 2 * 2 + j % 2 = j := by omega
      rw [e, hj] at hf
      have := h6 q rfl (j / 2) _ (j % 2) _ hc hu
      rw [e] at this
      rw [this]
      exact hf.symm
    · obtain ⟨c, hc1, hc2⟩ := List.mem_flatten.1 hu
      obtain ⟨i, hi, he⟩ := List.mem_iff_getElem.1 hc1
      have hiM : i < gs.length := by omega
      obtain ⟨u', e, hr⟩ := h7 i c gs[i] (by rw [List.getElem?_eq_getElem hi, he]) (List.getElem?_eq_getElem hiM)
      rw [e] at hc2
      simp only [List.mem_cons, List.not_mem_nil, or_false] at hc2
      rcases hc2 with rfl | rfl
      · obtain ⟨p, c, rfl⟩ := hr.shape
        rfl
      · rfl
    · rw [Nat.zero_add, List.nil_append] at ho'
      refine slice_of_own ho' h4 h5 fun i c y hi hy => (h7 i c y hi hy).keep hb'

set_option maxHeartbeats 1000000 in
theorem loser_few (n who : Int) {v : Value} {L : List (List Int)} {w : World} (hv : GridAt w v L) (hf : fewB L = false) :
    Calls Try.prog 9 #[.int .i64 n, v, .int .i64 who] w fun e w' => e = .returned (.bool true) ∧ Below w.heap.size w w' := by
  have FW := few_c hv
  rw [hf] at FW
  have FW := Lib.hid FW
  clear hv hf
  go_enter Try.func9, Try.ntmps9
  go_wp2_with (first
    | (go_at_call 11; ((with_reducible refine FW.out.mono ?_); rintro _ w1 ⟨rfl, rfl⟩))
    | (go_at_call 12; ((with_reducible refine (awake26 _).mono ?_); rintro _ w2 ⟨rfl, hb2⟩)))
  go_ret
  exact ⟨rfl, hb2⟩

theorem mod_two6 (x : Int) : ∃ k : Nat, 2 + x % 6 = (k : Int) ∧ 2 ≤ k ∧ k ≤ 7 := ⟨(2 + x % 6).toNat, by omega, by omega, by omega⟩

set_option maxRecDepth 100000 in
set_option maxHeartbeats 8000000 in
theorem walk_IrvLoser (n : Int) {v : Value} {L : List (List Int)} {w : World} (hv : GridAt w v L) (who : Int) :
    Calls Try.prog 9 #[.int .i64 n, v, .int .i64 who] w fun e w' => e = .returned (.bool true) ∧ Below w.heap.size w w' := by
  cases hf : fewB L with
  | false => exact loser_few n who hv hf
  | true =>
  obtain ⟨hf1, hf2⟩ := few_true.1 hf
  have FW := few_c hv
  rw [hf] at FW
  have FW := Lib.hid FW
  obtain ⟨k, hk, k2, k7⟩ := mod_two6 n
  have k1 : 1 ≤ k := by omega
  obtain ⟨z, hz⟩ : ∃ z, n % 6 = z := ⟨_, rfl⟩
  rw [hz] at hk
  have M6 : Hid (∀ w, Calls Try.prog 16 #[.int .i64 n, .int .i64 6] w fun e w' => e = .returned (.int .i64 z) ∧ w = w') := Lib.hid (fun w => by rw [← hz]; exact mod_c n 6 (by omega) (by omega) w)
  have e2 : IntKind.i64.wrap (k : Int) = k := w64 (by omega) (by omega)
  obtain ⟨x0, hx0⟩ : ∃ x : Nat, who % (k : Int) = x := ⟨(who % (k : Int)).toNat, by have := Int.emod_nonneg who (show (k : Int) ≠ 0 by omega); omega⟩
  have hx0k : x0 < k := by have := Int.emod_lt_of_pos who (show 0 < (k : Int) by omega); omega
  have MW : Hid (∀ w, Calls Try.prog 16 #[.int .i64 who, .int .i64 k] w fun e w' => e = .returned (.int .i64 x0) ∧ w = w') := Lib.hid (fun w => by rw [← hx0]; exact mod_c who k (by omega) (by omega) w)
  have PL := Lib.hid (fun wq (h : Below w.heap.size w wq) => mpile_c (hv.keep h) k1 k7 hf1 hf2)
  have hgp := pile_pile (L := L) k1 hf2
  have htot : totS (pileB k L) = L.length := by unfold pileB; rw [make_tot, List.length_map]
  obtain ⟨gs, hgs⟩ : ∃ gs, pileB k L = gs := ⟨_, rfl⟩
  rw [hgs] at PL hgp htot
  obtain ⟨pv, cv, rfl⟩ := hv.shp
  obtain ⟨bl, hbl⟩ : ∃ n, L.length = n := ⟨_, rfl⟩
  rw [hbl] at htot hf2 PL FW ⊢
  have hpos := hgp.pos
  have h7 := hgp.seven (by omega)
  have PO := Lib.hid (fun wq vg (h : PileAt wq vg gs) => possible_c h k1 k7 hgp)
  have AL := Lib.hid (fun wq => rall_c k k7 wq)
  have FI : Hid (∀ wq vg vr, PileAt wq vg gs → BoolsAt wq vr (List.replicate k true) → Calls Try.prog 39 #[vg, vr] wq fun e w' => ∃ p c, e = .returned (.tuple #[.slice p k c, .int .i64 (restS gs (List.replicate k true))]) ∧ IntsAt w' (.slice p k c) (votesS gs (List.replicate k true)) ∧ Below wq.heap.size wq w') := Lib.hid (fun wq vg vr h1 h2 => by
    refine (first_c h1 h2 h7 (by rw [List.length_replicate]; exact k1) (by rw [List.length_replicate]; exact k7)).mono ?_
    rintro e w' ⟨v', rfl, g1, _, g3⟩
    obtain ⟨p, c, e⟩ := g1.shape
    rw [votes_len, List.length_replicate] at e
    subst e
    exact ⟨p, c, rfl, g1, g3⟩)
  have PR := Lib.hid (fun wq vg (a b : Int) (hab : a ≠ b) (h : PileAt wq vg gs) => prefers_c h h7 a b hab)
  have MK := Lib.hid (fun wq vg (h : PileAt wq vg gs) => marked_c h h7)
  have HLO : Hid (∀ x, losB gs x k = true → hasB (possS k gs) x = false) := Lib.hid (fun x h => los_out k2 h)
  have HMA : Hid (∀ x, x < k → markedS gs < 2 * (votesS gs (List.replicate k true)).getD x 0 → possS k gs = [(x : Int)]) := Lib.hid (fun x hx h => by
    rw [votes_full hx] at h
    exact major_one k1 k7 hpos (by omega) h)
  have HVR : Hid (∀ x, x < k → 0 ≤ (votesS gs (List.replicate k true)).getD x 0 ∧ (votesS gs (List.replicate k true)).getD x 0 ≤ 100000) := Lib.hid (fun x hx => votes_rng hgp _ (mem_getD (by rw [votes_len, List.length_replicate]; exact hx) rfl))
  have hVL : (votesS gs (List.replicate k true)).length = k := by rw [votes_len, List.length_replicate]
  have hmo := more_one (gs := gs) (x := (x0 : Int)) (K := (bl : Int) + 1) k1 k7 hpos (by omega) (by omega)
  have hmp : PileP k (addS gs [(x0 : Int)] ((bl : Int) + 1)) := hgp.add ⟨fun c hc => by rw [List.mem_singleton] at hc; omega, by simp⟩ (by omega) (by omega)
  have hgr : ∀ g ∈ gs, 0 ≤ g.n ∧ g.n ≤ 1000000 := fun g hg => by have := hpos g hg; have := mem_tot hpos hg; omega
  have hgl : gs.length ≤ 1000000 := by have := len_tot hpos; omega
  have AD := Lib.hid (fun wq vg vp (h1 : PileAt wq vg gs) (h2 : IntsAt wq vp [(x0 : Int)]) => radd_c (K := (bl : Int) + 1) h1 h2 hgr (by omega) hgl)
  have PM := Lib.hid (fun wq vg (h : PileAt wq vg (addS gs [(x0 : Int)] ((bl : Int) + 1))) => possible_c h k1 k7 hmp)
  have hpn := poss_ne0 (gs := gs) k1 k7
  obtain ⟨ps, hps⟩ : ∃ ps, possS k gs = ps := ⟨_, rfl⟩
  obtain ⟨V, hV⟩ : ∃ V, votesS gs (List.replicate k true) = V := ⟨_, rfl⟩
  rw [hps] at PO HLO HMA hpn
  rw [hV] at FI HMA HVR hVL
  rw [hmo] at PM
  have HVL := Lib.hid hVL
  have hpl := List.length_pos_iff.2 hpn
  obtain ⟨pn, hpnl⟩ : ∃ n, ps.length = n := ⟨_, rfl⟩
  rw [hpnl] at hpl
  have HPN := Lib.hid hpnl
  have HGL := Lib.hid hgl
  have EQ : Hid (∀ wq va vb (l : List Int), IntsAt wq va l → IntsAt wq vb l → Calls Try.prog 13 #[va, vb] wq fun e w' => e = .returned (.bool true) ∧ Below wq.heap.size wq w') := Lib.hid (fun wq va vb l h1 h2 => by
    have := eq_c h1 h2
    rwa [decide_eq_true rfl] at this)
  have e3 : IntKind.i64.wrap ((bl : Int) + 1) = (bl : Int) + 1 := w64 (by omega) (by omega)
  clear hz hgp hgs hf hf1 hv hbl htot hpos h7 hps hV hVL hmo hmp hgr hgl hpn hpnl hx0
  go_enter Try.func9, Try.ntmps9
  go_wp2_with (first
    | (go_at_call 11; ((with_reducible refine FW.out.mono ?_); rintro _ w1 ⟨rfl, rfl⟩))
    | (go_at_call 16; ((with_reducible refine (M6.out _).mono ?_); rintro _ w2 ⟨rfl, rfl⟩))
    | (go_at_call 17; ((with_reducible refine (PL.out _ (Below.refl _ _)).mono ?_); rintro _ w3 ⟨v3, rfl, h3, hb3⟩))
    | (go_at_call 14; ((with_reducible refine (PO.out _ _ h3).mono ?_); rintro _ w4 ⟨v4, rfl, h4, _, hb4⟩; have b4 := bel2' hb3 hb4; have h34 := h3.keep hb4; obtain ⟨p4, c4, rfl⟩ := h4.shape))
    | (go_at_call 23; ((with_reducible refine (AL.out _).mono ?_); rintro _ w5 ⟨g5, rfl, h5, _, hb5⟩; have b5 := bel2' b4 hb5; have h35 := h34.keep hb5; have h45 := h4.keep hb5; have h5r := h5.read))
    | (go_at_call 39; ((with_reducible refine (FI.out _ _ _ h35 h5r).mono ?_); rintro _ w6 ⟨p6, c6, rfl, h6, hb6⟩; have b6 := bel2' b5 hb6; have h36 := h35.keep hb6; have h46 := h45.keep hb6)))
  rw [HPN.out] at *
  have H36 := Lib.hid h36
  have H46 := Lib.hid h46
  have H6 := Lib.hid h6
  clear h3 h34 h35 h36 h4 h45 h46 h5 h5r h6
  go_loopw [11] (fun iv wr => ∃ x : Nat, x ≤ k ∧ iv = .int .i64 x ∧ Below w6.heap.size w6 wr) (fun iv _ => k - (intOf iv).toNat)
  case atStart => exact ⟨0, by omega, rfl, Below.refl _ _⟩
  case round =>
    obtain ⟨x, hx, rfl, hbel⟩ := hrel
    by_cases hlt : x < k
    · have hltz : (x : Int) < (k : Int) := by omega
      go_wp2_with fail
      go_loopw [12, 13] (fun lv jv wz => ∃ d : Nat, d ≤ k ∧ jv = .int .i64 d ∧ lv = .bool (losB gs x d) ∧ Below wr.heap.size wr wz) (fun _ jv _ => k - (intOf jv).toNat)
      case atStart => exact ⟨0, by omega, rfl, rfl, Below.refl _ _⟩
      case round =>
        obtain ⟨d, hd, rfl, rfl, hbz⟩ := hrel
        have hb6z := bel2' hbel hbz
        by_cases hdl : d < k
        · have hdz : (d : Int) < (k : Int) := by omega
          have hst : losB gs x (d + 1) = (losB gs x d && (decide (x = d) || decide (prefS gs x d < prefS gs d x))) := rfl
          obtain ⟨l, hl⟩ : ∃ l, losB gs x d = l := ⟨_, rfl⟩
          rw [hl] at hst ⊢
          clear hl
          by_cases hxd : x = d
          · have q1 : ((x : Int) == (d : Int)) = true := by rw [hxd]; simp
            have q2 : ((x : Int) != (d : Int)) = false := by rw [hxd]; simp
            have HST : Hid (losB gs x (d + 1) = l) := Lib.hid (by rw [hst, decide_eq_true hxd]; simp)
            clear hst hxd
            go_wp2_with fail
            go_roundw
            case rel => exact ⟨d + 1, by omega, by go_num, by rw [HST.out], hbz⟩
            case measure => simp [intOf] <;> omega
          · have hxd1 : (x : Int) ≠ (d : Int) := by omega
            have hxd2 : (d : Int) ≠ (x : Int) := by omega
            have q1 : ((x : Int) == (d : Int)) = false := by rw [beq_eq_false_iff_ne]; exact hxd1
            have q2 : ((x : Int) != (d : Int)) = true := by simpa using hxd1
            obtain ⟨a, ha⟩ : ∃ a, prefS gs x d = a := ⟨_, rfl⟩
            obtain ⟨b, hb⟩ : ∃ b, prefS gs d x = b := ⟨_, rfl⟩
            have PA : Hid (∀ wq, Below w6.heap.size w6 wq → Calls Try.prog 40 #[v3, .int .i64 x, .int .i64 d] wq fun e w' => e = .returned (.int .i64 a) ∧ Below wq.heap.size wq w') := Lib.hid (fun wq h => by rw [← ha]; exact PR.out wq v3 x d hxd1 (H36.out.keep h))
            have PB : Hid (∀ wq, Below w6.heap.size w6 wq → Calls Try.prog 40 #[v3, .int .i64 d, .int .i64 x] wq fun e w' => e = .returned (.int .i64 b) ∧ Below wq.heap.size wq w') := Lib.hid (fun wq h => by rw [← hb]; exact PR.out wq v3 d x hxd2 (H36.out.keep h))
            rw [ha, hb, decide_eq_false hxd, Bool.false_or] at hst
            clear ha hb hxd hxd1 hxd2
            by_cases hab : b ≤ a
            · have d1 : decide (b ≤ a) = true := decide_eq_true hab
              have HST : Hid (losB gs x (d + 1) = false) := Lib.hid (by rw [hst, decide_eq_false (by omega)]; simp)
              clear hst
              go_wp2_with (first
                | (go_at_call 40; ((with_reducible refine (PA.out _ hb6z).mono ?_); rintro _ w7 ⟨rfl, hb7⟩; have hb67 := bel2' hb6z hb7; have hbz7 := bel2' hbz hb7))
                | (go_at_call 40; ((with_reducible refine (PB.out _ hb67).mono ?_); rintro _ w8 ⟨rfl, hb8⟩; have hbz8 := bel2' hbz7 hb8)))
              go_roundw
              case rel => exact ⟨d + 1, by omega, by go_num, by rw [HST.out], hbz8⟩
              case measure => simp [intOf] <;> omega
            · have d1 : decide (b ≤ a) = false := decide_eq_false hab
              have HST : Hid (losB gs x (d + 1) = l) := Lib.hid (by rw [hst, decide_eq_true (by omega)]; simp)
              clear hst
              go_wp2_with (first
                | (go_at_call 40; ((with_reducible refine (PA.out _ hb6z).mono ?_); rintro _ w7 ⟨rfl, hb7⟩; have hb67 := bel2' hb6z hb7; have hbz7 := bel2' hbz hb7))
                | (go_at_call 40; ((with_reducible refine (PB.out _ hb67).mono ?_); rintro _ w8 ⟨rfl, hb8⟩; have hbz8 := bel2' hbz7 hb8)))
              go_roundw
              case rel => exact ⟨d + 1, by omega, by go_num, by rw [HST.out], hbz8⟩
              case measure => simp [intOf] <;> omega
        · obtain rfl : k = d := by omega
          obtain ⟨l, hl⟩ : ∃ l, losB gs x k = l := ⟨_, rfl⟩
          have HHA := Lib.hid (fun h : l = true => HLO.out x (by rw [hl]; exact h))
          rw [hl]
          obtain ⟨b6, o6, e6, hcap1, hcap2, hvc⟩ := (H6.out.keep hb6z).cellAt x (by rw [HVL.out]; exact hlt)
          subst e6
          have hvr := HVR.out x hlt
          have hma := HMA.out x hlt
          obtain ⟨vx, hvx⟩ : ∃ vx, V.getD x 0 = vx := ⟨_, rfl⟩
          rw [hvx] at hvc hvr hma
          rw [HVL.out] at hcap1
          have hw2 : IntKind.i64.wrap (2 * vx) = 2 * vx := w64 (by omega) (by omega)
          obtain ⟨mk, hmk⟩ : ∃ m, markedS gs = m := ⟨_, rfl⟩
          rw [hmk] at hma
          have hbd : Below w6.heap.size w6 wr.drew := hb6z.drew
          have hbzd := (Below.refl wr.heap.size wr).drew
          have MA : Hid (Calls Try.prog 41 #[v3] wr.drew fun e w' => e = .returned (.int .i64 mk) ∧ Below wr.drew.heap.size wr.drew w') := Lib.hid (by rw [← hmk]; exact MK.out _ _ (H36.out.keep hbd))
          have HA : Hid (l = true → Calls Try.prog 21 #[.slice p4 pn c4, .int .i64 x] wr.drew fun e w' => e = .returned (.bool false) ∧ wr.drew = w') := Lib.hid (fun h => by have := has_c (H46.out.keep hbd) x; rwa [HHA.out h] at this)
          have HMX := Lib.hid hma
          clear hl hvx hmk hma
          by_cases hmaj : mk < 2 * vx
          · have d2 : decide (mk < 2 * vx) = true := decide_eq_true hmaj
            have hps1 := HMX.out hmaj
            have EA : Hid (∀ wq g, Below w6.heap.size w6 wq → wq.heap.size = g → Calls Try.prog 13 #[.slice p4 pn c4, .slice (some ⟨g, 0, none⟩) 1 1] (wq.alloc (.cells #[.int .i64 x] 3)) fun e w' => e = .returned (.bool true) ∧ Below wq.heap.size wq w') := Lib.hid (fun wq g h hg => by
              subst hg
              have a : Below wq.heap.size wq (wq.alloc (.cells #[.int .i64 x] 3)) := below_al (Below.refl _ _) _
              have h1 := (H46.out.keep h).keep a
              rw [hps1] at h1
              exact (EQ.out _ _ _ [(x : Int)] h1 (row_lit wq [(x : Int)] (by simp))).mono fun _ _ ⟨q1, q2⟩ => ⟨q1, bel2' a q2⟩)
            clear hps1 hmaj
            cases l
            · clear HHA HA
              go_wp2_with fail
              first
                | (go_region_with (first
                  | (go_at_call 41; ((with_reducible refine MA.out.mono ?_); rintro _ w7 ⟨rfl, hb7⟩; have hvc7 := cell_keep hb7 hvc; have hb67 := bel2' hbd hb7; have hbz7 := bel2' hbzd hb7))
                  | (go_at_call 13; ((with_reducible refine (EA.out _ _ hb67 rfl).mono ?_); rintro _ w8 ⟨rfl, hb8⟩; have hbz8 := bel2' hbz7 hb8))))
                | fail "region"
              all_goals
                go_wp2_with fail
                go_roundw
                case rel => exact ⟨x + 1, by omega, by go_num, bel2' hbel (by first | exact bel2' hbz hbz8 | exact hbz8)⟩
                case measure => simp [intOf] <;> omega
            · have HAt := Lib.hid (HA.out rfl)
              clear HHA HA
              go_wp2_with fail
              first
                | (go_region_with (first
                  | (go_at_call 21; ((with_reducible refine HAt.out.mono ?_); rintro _ _ ⟨rfl, rfl⟩))
                  | (go_at_call 41; ((with_reducible refine MA.out.mono ?_); rintro _ w7 ⟨rfl, hb7⟩; have hvc7 := cell_keep hb7 hvc; have hb67 := bel2' hbd hb7; have hbz7 := bel2' hbzd hb7))
                  | (go_at_call 13; ((with_reducible refine (EA.out _ _ hb67 rfl).mono ?_); rintro _ w8 ⟨rfl, hb8⟩; have hbz8 := bel2' hbz7 hb8))))
                | fail "region"
              all_goals
                go_wp2_with fail
                go_roundw
                case rel => exact ⟨x + 1, by omega, by go_num, bel2' hbel (by first | exact bel2' hbz hbz8 | exact hbz8)⟩
                case measure => simp [intOf] <;> omega
          · have d2 : decide (mk < 2 * vx) = false := decide_eq_false hmaj
            clear HMX hmaj
            cases l
            · clear HHA HA
              go_wp2_with fail
              first
                | (go_region_with (go_at_call 41; ((with_reducible refine MA.out.mono ?_); rintro _ w7 ⟨rfl, hb7⟩; have hvc7 := cell_keep hb7 hvc; have hb67 := bel2' hbd hb7; have hbz7 := bel2' hbzd hb7)))
                | fail "region"
              all_goals
                go_wp2_with fail
                go_roundw
                case rel => exact ⟨x + 1, by omega, by go_num, bel2' hbel (by first | exact bel2' hbz hbz7 | exact hbz7)⟩
                case measure => simp [intOf] <;> omega
            · have HAt := Lib.hid (HA.out rfl)
              clear HHA HA
              go_wp2_with fail
              first
                | (go_region_with (first
                  | (go_at_call 21; ((with_reducible refine HAt.out.mono ?_); rintro _ _ ⟨rfl, rfl⟩))
                  | (go_at_call 41; ((with_reducible refine MA.out.mono ?_); rintro _ w7 ⟨rfl, hb7⟩; have hvc7 := cell_keep hb7 hvc; have hb67 := bel2' hbd hb7; have hbz7 := bel2' hbzd hb7))))
                | fail "region"
              all_goals
                go_wp2_with fail
                go_roundw
                case rel => exact ⟨x + 1, by omega, by go_num, bel2' hbel (by first | exact bel2' hbz hbz7 | exact hbz7)⟩
                case measure => simp [intOf] <;> omega
    · have hltz : ¬ (x : Int) < (k : Int) := by omega
      have h3r := H36.out.keep hbel
      have hpz : (0 : Int) < (pn : Int) := by omega
      go_wp2_with (first
        | (go_at_call 16; ((with_reducible refine (MW.out _).mono ?_); rintro _ _ ⟨rfl, rfl⟩))
        | (at_builtin; go_must (refine append_pile rfl rfl rfl h3r rfl HGL.out ?_); intro v7 w7 h7 hb7; have h77 := h7.keep (below_al (Below.refl w7.heap.size w7) (.cells #[.int .i64 x0] 3)); have r7 : IntsAt (w7.alloc (.cells #[.int .i64 x0] 3)) (.slice (some ⟨w7.heap.size, 0, none⟩) 1 1) [(x0 : Int)] := row_lit w7 [(x0 : Int)] (by simp); have hb7' := below_al (bel2' hbel hb7) (.cells #[.int .i64 x0] 3))
        | (go_at_call 33; ((with_reducible refine (AD.out _ _ _ h77 r7).mono ?_); rintro _ w8 ⟨v8, rfl, h8, hb8⟩; have hb68 := bel2' hb7' hb8))
        | (go_at_call 12; ((with_reducible refine (awake26 _).mono ?_); rintro _ w9 ⟨rfl, hb9⟩; have hb69 := bel2' hb68 hb9; have h89 := h8.keep hb9))
        | (go_at_call 14; ((with_reducible refine (PM.out _ _ h89).mono ?_); rintro _ w10 ⟨v10, rfl, h10, _, hb10⟩; have hb610 := bel2' hb69 hb10; have h1010 := h10.keep (below_al (Below.refl w10.heap.size w10) (.cells #[.int .i64 x0] 3)); have r10 : IntsAt (w10.alloc (.cells #[.int .i64 x0] 3)) (.slice (some ⟨w10.heap.size, 0, none⟩) 1 1) [(x0 : Int)] := row_lit w10 [(x0 : Int)] (by simp); have hb10' := below_al hb610 (.cells #[.int .i64 x0] 3)))
        | (go_at_call 13; ((with_reducible refine (EQ.out _ _ _ [(x0 : Int)] h1010 r10).mono ?_); rintro _ w11 ⟨rfl, hb11⟩)))
      go_ret
      exact ⟨rfl, bel2' (bel2' b6 hb10') hb11⟩

end Go.Proofs.Ytbnhgmikegdppaa

namespace Go.Proofs.Ytbnhgmikegdppaa.irvLoser
open Go.ChangeShapes Go.WideShapes Go.ChangeAt Go.RowKit
open Go.ChangeMaps (open_string shut_string)

theorem own : ownKnob Try.prog.godebug = none := by kernel_rfl
theorem laidOut : laidOutB Try.prog = true := by kernel_rfl

set_option maxRecDepth 100000 in
theorem lifted (os : Os) (started : os.Started) (H : Type) (enc : TypeId × Value → H) :
    ReturnsInHanded {} Try.checked os 9 .any (Rows.irvLoserSpec.pre6 enc Try.prog Try.f9 Rows.irvLoserRow.domain false) (Rows.irvLoserSpec.post enc Try.prog Try.f9 false true false false) := by
  refine returnsInHanded_of_change (C := Try.checked) own started (by kernel_rfl) Try.func9
    (ChangeSpec.witness6 (enc := enc) (C := Try.checked) false ⟨#[], #[.int .i64 0, .slice none 0 0, .int .i64 0], []⟩ 8 (by kernel_rfl) (by kernel_rfl) (by kernel_rfl) (by kernel_rfl)) ?_
  intro W base args ds gs before hval0 hW hcnd _
  have hval := hval0
  have hW' := hW
  obtain ⟨p, q, hA0, hV, rfl, hfz, hnd⟩ := hW
  have hA : DataW.TrodAll enc Try.prog W 0 (fun _ => true) true Try.f9.params.toList args.toList ds p := hA0
  rw [Try.params9] at hA hval
  obtain ⟨v0, vs0, d0, ds0, p0, q0, hargs, rfl, rfl, h0, r0⟩ := trodAll_cons hA
  obtain ⟨v1, vs1, d1, ds1, p1, q1, rfl, rfl, rfl, h1, r1⟩ := trodAll_cons r0
  obtain ⟨v2, vs2, d2, ds2, p2, q2, rfl, rfl, rfl, h2, r2⟩ := trodAll_cons r1
  obtain ⟨rfl, rfl, rfl⟩ := trodAll_nil r2
  obtain rfl : args = #[v0, v1, v2] := by cases args; simp_all
  obtain ⟨rfl, rfl⟩ := trodVars_none hV
  obtain ⟨a0, rfl, rfl, rfl, w0⟩ := open_int Try.underlying3 (hval 0 3 v0 rfl rfl) h0
  have lt1 : ∀ x ∈ p1, x.block < W.heap.size := by obtain ⟨m, hm⟩ := h1; exact DataW.trod_lt m _ _ _ hm
  obtain ⟨l1, n1⟩ := grid_open (hval 1 23 v1 rfl rfl) h1
  obtain ⟨a2, rfl, rfl, rfl, w2⟩ := open_int Try.underlying3 (hval 2 3 v2 rfl rfl) h2
  clear hA0 hval0
  refine (walk_IrvLoser a0 n1 a2).mono fun e W' ⟨he, bel⟩ => ?_
  subst he
  exact ⟨_, rfl, _, _, _, [], _, [], hW', trodAll_mk1 (shut_bool Try.underlying4 _), (trodAll_cons_mk (shut_int Try.underlying3 w0) (trodAll_cons_mk (Below.trod laidOut (by kernel_rfl) (of_decide_eq_true (by kernel_rfl)) h1 bel lt1) (trodAll_cons_mk (shut_int Try.underlying3 w2) trodAll_mk0))), rfl, bel.frame _, fun h => by cases h⟩

theorem over : Rows.irvLoserRow.holds Try.pinned (OpenSpec.ofChange Rows.irvLoserSpec) :=
  OpenClaim.holds_of_wide 9 Try.f9 rfl rfl rfl rfl rfl rfl rfl ⟨rfl, rfl, rfl, rfl, rfl⟩ rfl rfl rfl rfl rfl (by kernel_rfl) Try.func9 (by kernel_rfl)
    (of_decide_eq_true (by kernel_rfl)) (by unfold Func.isWrapper; first | (rw [if_pos (by decide +kernel)]; kernel_rfl) | (rw [if_neg (by decide +kernel)]; exact ⟨rfl, rfl⟩))
    (fun os started H enc _ => lifted os started H enc)

end Go.Proofs.Ytbnhgmikegdppaa.irvLoser
namespace Go.Proofs.Ytbnhgmikegdppaa
/-- IrvLoser: the given statement. -/
theorem irvLoser_proved : Rows.IrvLoserSaid := irvLoser.over
#print axioms irvLoser_proved
end Go.Proofs.Ytbnhgmikegdppaa
