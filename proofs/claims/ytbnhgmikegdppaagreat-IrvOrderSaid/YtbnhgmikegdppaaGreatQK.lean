/- Contracts and plain facts, part 11: Vd, I5, I6, I7, I8, I9, Ia, Ib, Ic, Id, Ie, Ig, Ih. No condition beyond those that each theorem states. -/
import Derived.Test.YtbnhgmikegdppaaGreatQJ
/- Ties in a count, and the count's names, plain. -/
namespace Go.Proofs.Nums

theorem whole_d (x : Int) : (wholeQ x).d = 1 := by
  unfold wholeQ Q.mk'
  split
  · rfl
  · simp
theorem vote_d (r : List Int) (c : Int) : (vote (wholesS r) c).d = 1 := by
  unfold vote wholesS
  rw [List.getD_eq_getElem?_getD, List.getElem?_map]
  cases r[c.toNat]? with
  | none => rfl
  | some x => exact whole_d x
theorem whole_swo (r : List Int) (least : Bool) : Swo (ltV (wholesS r) least) := by
  have h := vote_d r
  unfold ltV
  cases least
  · exact ⟨fun a => lessQ_irr _, fun a b => lessQ_asy, fun a b c h1 h2 => lessQ_tr (by rw [h]; omega) h2 h1⟩
  · exact ⟨fun a => lessQ_irr _, fun a b => lessQ_asy, fun a b c h1 h2 => lessQ_tr (by rw [h]; omega) h1 h2⟩
theorem left_ne_swo (least : Bool) {vs : List (List Q)} (hs : ∀ v ∈ vs, Swo (ltV v least)) {l : List Int} (h : l ≠ []) : leftS least vs l ≠ [] := by
  induction vs generalizing l with
  | nil => exact h
  | cons v vs ih =>
    simp only [leftS]
    refine ih (fun v hv => hs v (by simp [hv])) ?_
    split
    · exact extA_ne' (hs v (by simp)) h
    · exact h
theorem mem_rounds {rule : Int} {M : List (List Q)} {v : List Q} (h : v ∈ roundsS rule M) : v ∈ M := by
  unfold roundsS at h
  split at h
  · simp at h
  · split at h
    · exact List.mem_reverse.1 h
    · exact h
theorem break_in {rule : Int} {M : List (List Q)} {t lots : List Int} {least : Bool} (hv : validS rule t lots = true) (hs : ∀ v ∈ M, Swo (ltV v least)) : (breakS rule M t lots least).1 ∈ t := by
  have hne : t ≠ [] := ((valid_eq _ _ _).1 hv).2.2.1
  have h1 := left_ne_swo least (vs := roundsS rule M) (fun v h => hs v (mem_rounds h)) hne
  have hsub := (leftS_sub least (roundsS rule M) t).subset
  rw [break_valid hv]
  split
  · exact hsub (head_mem h1)
  · exact hsub (pick_mem h1)
theorem break_ren2 {s : Int → Int} {n : Nat} (hs : Ren s n) {rule : Int} {M M' : List (List Q)} {t t' lots : List Int} {least : Bool} (hv : validS rule t lots = true) (hv' : validS rule t' (lots.map s) = true) (hn : lots.length = n) (hr : RowsRen (RowRen s n) M M') (hsw : ∀ v ∈ M, Swo (ltV v least)) (hp : t'.Perm (t.map s)) :
    (breakS rule M' t' (lots.map s) least).1 = s (breakS rule M t lots least).1 := by
  obtain ⟨_, hbl, hne, hbt, _⟩ := (valid_eq _ _ _).1 hv
  rw [hn] at hbl hbt
  have key := leftS_ren (least := least) (hr.rounds rule) hp hbt.1
  have hne2 := left_ne_swo least (vs := roundsS rule M) (fun v h => hsw v (mem_rounds h)) hne
  have hsub := (leftS_sub least (roundsS rule M) t).subset
  rw [break_valid hv, break_valid hv']
  obtain ⟨l, hl⟩ : ∃ l, leftS least (roundsS rule M) t = l := ⟨_, rfl⟩
  obtain ⟨l', hl'⟩ : ∃ l, leftS least (roundsS rule M') t' = l := ⟨_, rfl⟩
  rw [hl] at key hne2 hsub ⊢
  rw [hl'] at key ⊢
  have hlen : l'.length = l.length := by rw [key.length_eq, List.length_map]
  rw [hlen]
  split
  · rename_i h1
    obtain ⟨a, rfl⟩ := List.length_eq_one_iff.1 h1
    obtain ⟨b, rfl⟩ := List.length_eq_one_iff.1 (hlen.trans h1)
    have := key.mem_iff (a := b)
    simp at this
    simp [this]
  · exact pick_ren hs hbl.1 key hne2 (fun x hx => by
      have hx := hsub hx
      have h1 := hbt.1 x hx
      exact bal_mem (by rw [hn]; exact hbl) h1.1 (by rw [hn]; exact h1.2))

/-- A tie is broken by the rule and the lots. -/
def brkS (rule : Int) (lots : List Int) (ear : List (List Int)) (t : List Int) : Int := (breakS rule (ear.map wholesS) t lots true).1
/-- The lots of n candidates. -/
def Lots (n : Nat) (lots : List Int) : Prop := BalP n lots ∧ lots.length = n
theorem lots_valid {n : Nat} {lots : List Int} {rule : Int} {t : List Int} (hl : Lots n lots) (h1 : 1 ≤ rule) (h3 : rule ≤ 3) (hn : 1 ≤ n) (h7 : n ≤ 7) (hne : t ≠ []) (hr : ∀ c ∈ t, 0 ≤ c ∧ c < (n : Int)) (hs : t.Pairwise (· < ·)) : validS rule t lots = true := by
  rw [valid_eq, hl.2]
  exact ⟨⟨h1, h3, hn, h7⟩, hl.1, hne, ⟨hr, sorted_nodup hs⟩, hs⟩
theorem ear_swo (ear : List (List Int)) (least : Bool) : ∀ v ∈ ear.map wholesS, Swo (ltV v least) := by
  intro v hv
  obtain ⟨r, _, rfl⟩ := List.mem_map.1 hv
  exact whole_swo r least
theorem brk_in {n : Nat} {lots : List Int} {rule : Int} (hl : Lots n lots) (h1 : 1 ≤ rule) (h3 : rule ≤ 3) (hn : 1 ≤ n) (h7 : n ≤ 7) : Brk n (brkS rule lots) := fun ear _t hne hr hs =>
  break_in (lots_valid hl h1 h3 hn h7 hne hr hs) (ear_swo ear true)

/-- Renamed ballots. -/
def RenPile (s : Int → Int) (n : Nat) (gs gs' : List Grp) : Prop := (∀ g ∈ gs, ∀ c ∈ g.p, 0 ≤ c ∧ c < (n : Int)) ∧ ∀ f, sumF f gs' = sumF (fun p => f (p.map s)) gs
def RenSet (s : Int → Int) (n : Nat) (rem rem' : List Bool) : Prop := rem.length = n ∧ rem'.length = n ∧ ∀ c : Int, 0 ≤ c → c < n → remB rem' (s c) = remB rem c
theorem ren_find {s : Int → Int} {n : Nat} {R R' : Int → Bool} {p : List Int} (hp : ∀ c ∈ p, 0 ≤ c ∧ c < (n : Int)) (hR : ∀ c : Int, 0 ≤ c → c < n → R' (s c) = R c) : (p.map s).find? R' = (p.find? R).map s := by
  induction p with
  | nil => rfl
  | cons a p ih =>
    have ha := hp a (by simp)
    rw [List.map_cons, List.find?_cons, List.find?_cons, hR a ha.1 ha.2, ih fun c hc => hp c (by simp [hc])]
    split <;> rfl
theorem ren_wt {s : Int → Int} {n : Nat} (hs : Ren s n) {gs gs' : List Grp} (hg : RenPile s n gs gs') {rem rem' : List Bool} (hr : RenSet s n rem rem') {c : Int} (h0 : 0 ≤ c) (h1 : c < n) : wt (remB rem') gs' (s c) = wt (remB rem) gs c := by
  unfold wt
  rw [hg.2]
  refine sumF_congr fun g hgm => ?_
  have r := hs.rng c h0 h1
  rw [decide_eq_decide, first_iff (by omega), first_iff (by omega), ren_find (hg.1 g hgm) hr.2.2]
  constructor
  · intro h
    obtain ⟨y, h2, h3⟩ := Option.map_eq_some_iff.1 h
    have hy := hg.1 g hgm y (List.mem_of_find?_eq_some h2)
    rw [h2, hs.inj y c hy.1 hy.2 h0 h1 h3]
  · intro h
    rw [h]; rfl
theorem ren_alive {s : Int → Int} {n : Nat} (hs : Ren s n) {rem rem' : List Bool} (hr : RenSet s n rem rem') (hsur : ∀ y : Int, 0 ≤ y → y < n → ∃ c : Int, 0 ≤ c ∧ c < n ∧ s c = y) : (aliveS rem').Perm ((aliveS rem).map s) := by
  have hb : BalP n (aliveS rem) := ⟨fun c hc => by have := remB_lt (mem_alive.1 hc); rw [hr.1] at this; exact this, sorted_nodup (alive_sorted _)⟩
  refine (List.perm_ext_iff_of_nodup (sorted_nodup (alive_sorted _)) (ren_nodup hs hb)).2 fun y => ?_
  rw [mem_alive, List.mem_map]
  constructor
  · intro h
    have hy := remB_lt h
    rw [hr.2.1] at hy
    obtain ⟨c, c0, c1, rfl⟩ := hsur y hy.1 hy.2
    rw [hr.2.2 c c0 c1] at h
    exact ⟨c, mem_alive.2 h, rfl⟩
  · rintro ⟨c, hc, rfl⟩
    have h := hb.1 c hc
    rw [hr.2.2 c h.1 h.2]
    exact mem_alive.1 hc
theorem ren_low {s : Int → Int} {n : Nat} (hs : Ren s n) {gs gs' : List Grp} (hg : RenPile s n gs gs') {rem rem' : List Bool} (hr : RenSet s n rem rem') (hsur : ∀ y : Int, 0 ≤ y → y < n → ∃ c : Int, 0 ≤ c ∧ c < n ∧ s c = y) : (lowS gs' rem').Perm ((lowS gs rem).map s) := by
  unfold lowS
  refine extA_ren (ren_alive hs hr hsur) fun a ha b hb => ?_
  have ra := remB_lt (mem_alive.1 ha)
  have rb := remB_lt (mem_alive.1 hb)
  rw [hr.1] at ra rb
  unfold ltW
  rw [ren_wt hs hg hr ra.1 ra.2, ren_wt hs hg hr rb.1 rb.2]
theorem vote_of {r : List Int} {c : Int} (h0 : 0 ≤ c) (h1 : c < r.length) : vote (wholesS r) c = wholeQ (r.getD c.toNat 0) := by
  unfold vote wholesS
  rw [List.getD_eq_getElem?_getD, List.getD_eq_getElem?_getD, List.getElem?_map, List.getElem?_eq_getElem (by omega)]
  rfl
theorem votes_get {gs : List Grp} {rem : List Bool} {c : Int} (h0 : 0 ≤ c) (h1 : c < rem.length) : (votesS gs rem).getD c.toNat 0 = wt (remB rem) gs c := by
  unfold votesS
  rw [List.getD_eq_getElem?_getD, List.getElem?_map, List.getElem?_range (by omega)]
  simp only [Option.map_some, Option.getD_some]
  rw [show ((c.toNat : Nat) : Int) = c by omega]
theorem votes_len (gs : List Grp) (rem : List Bool) : (votesS gs rem).length = rem.length := by simp [votesS]
theorem ren_votes {s : Int → Int} {n : Nat} (hs : Ren s n) {gs gs' : List Grp} (hg : RenPile s n gs gs') {rem rem' : List Bool} (hr : RenSet s n rem rem') : RowRen s n (wholesS (votesS gs rem)) (wholesS (votesS gs' rem')) := by
  intro c h0 h1
  have r := hs.rng c h0 h1
  rw [vote_of r.1 (by rw [votes_len, hr.2.1]; exact r.2), vote_of h0 (by rw [votes_len, hr.1]; exact h1), votes_get r.1 (by rw [hr.2.1]; exact r.2), votes_get h0 (by rw [hr.1]; exact h1), ren_wt hs hg hr h0 h1]
/-- The order is renamed with the candidates. -/
theorem order_ren {s : Int → Int} {n : Nat} (hs : Ren s n) (hsur : ∀ y : Int, 0 ≤ y → y < n → ∃ c : Int, 0 ≤ c ∧ c < n ∧ s c = y) {gs gs' : List Grp} (hg : RenPile s n gs gs') {rule : Int} {lots : List Int} (hl : Lots n lots) (h1 : 1 ≤ rule) (h3 : rule ≤ 3) (hn : 1 ≤ n) (h7 : n ≤ 7) :
    ∀ (k : Nat) (rem rem' : List Bool) (ear ear' : List (List Int)), RenSet s n rem rem' → RowsRen (RowRen s n) (ear.map wholesS) (ear'.map wholesS) → orderS (brkS rule (lots.map s)) gs' k rem' ear' = (orderS (brkS rule lots) gs k rem ear).map s
  | 0, rem, rem', ear, ear', _, _ => rfl
  | k + 1, rem, rem', ear, ear', hr, he => by
    have hpa := ren_alive hs hr hsur
    have hpl := ren_low hs hg hr hsur
    have hlen : (aliveS rem').length = (aliveS rem).length := by rw [hpa.length_eq, List.length_map]
    have hlen2 : (lowS gs' rem').length = (lowS gs rem).length := by rw [hpl.length_eq, List.length_map]
    have hl' : Lots n (lots.map s) := ⟨⟨fun c hc => by
      obtain ⟨y, hy, rfl⟩ := List.mem_map.1 hc
      have := hl.1.1 y hy
      exact hs.rng y this.1 this.2, ren_nodup hs hl.1⟩, by rw [List.length_map]; exact hl.2⟩
    unfold orderS
    rw [hlen]
    split
    · next ha =>
      have hne : aliveS rem ≠ [] := fun e => by rw [e] at ha; simp at ha
      have hne' : aliveS rem' ≠ [] := fun e => by rw [e] at hlen; simp at hlen; omega
      have hx : exclS (brkS rule (lots.map s)) gs' rem' ear' = s (exclS (brkS rule lots) gs rem ear) := by
        unfold exclS
        rw [hlen2]
        split
        · have v1 := lots_valid hl h1 h3 hn h7 (low_ne (gs := gs) hne) (fun c hc => by have := remB_lt (mem_alive.1 (low_sub hc)); rw [hr.1] at this; exact this) (low_sorted gs rem)
          have v2 := lots_valid hl' h1 h3 hn h7 (low_ne (gs := gs') hne') (fun c hc => by have := remB_lt (mem_alive.1 (low_sub hc)); rw [hr.2.1] at this; exact this) (low_sorted gs' rem')
          exact break_ren2 hs v1 v2 hl.2 he (ear_swo ear true) hpl
        · next h2 =>
          have hn0 := low_ne (gs := gs) hne
          have hone : (lowS gs rem).length = 1 := by
            have := List.length_pos_iff.2 hn0
            omega
          obtain ⟨a, ha2⟩ := List.length_eq_one_iff.1 hone
          obtain ⟨b, hb2⟩ := List.length_eq_one_iff.1 (hlen2.trans hone)
          rw [ha2, hb2] at hpl ⊢
          have := hpl.mem_iff (a := b)
          simp at this
          simp [this]
      have hxa := low_sub (excl_low (gs := gs) (ear := ear) (by rw [hr.1]; exact brk_in hl h1 h3 hn h7) hne)
      rw [hx]
      generalize exclS (brkS rule lots) gs rem ear = x at hxa ⊢
      have rx := remB_lt (mem_alive.1 hxa)
      rw [hr.1] at rx
      have rsx := hs.rng x rx.1 rx.2
      rw [List.map_cons]
      congr 1
      refine order_ren hs hsur hg hl h1 h3 hn h7 k _ _ _ _ ⟨by rw [List.length_set]; exact hr.1, by rw [List.length_set]; exact hr.2.1, fun c c0 c1 => ?_⟩ ?_
      · rw [rem_set rsx.1, rem_set rx.1]
        simp only
        rw [hr.2.2 c c0 c1]
        congr 1
        rw [decide_eq_decide]
        exact not_congr ⟨fun e => hs.inj c x c0 c1 rx.1 rx.2 e, fun e => by rw [e]⟩
      · rw [List.map_append, List.map_append]
        exact he.snoc (ren_votes hs hg hr)
    · next ha =>
      by_cases h0 : (aliveS rem).length = 0
      · have e1 : aliveS rem = [] := List.eq_nil_of_length_eq_zero h0
        have e2 : aliveS rem' = [] := List.eq_nil_of_length_eq_zero (hlen.trans h0)
        rw [e1, e2]; rfl
      · have hone : (aliveS rem).length = 1 := by omega
        obtain ⟨a, ha2⟩ := List.length_eq_one_iff.1 hone
        obtain ⟨b, hb2⟩ := List.length_eq_one_iff.1 (hlen.trans hone)
        rw [ha2, hb2] at hpa ⊢
        have := hpa.mem_iff (a := b)
        simp at this
        simp [this]

end Go.Proofs.Nums

/- pile.First. -/
namespace Go.Proofs.Nums

theorem wt_snoc (R : Int → Bool) (gs : List Grp) (g : Grp) (c : Int) : wt R (gs ++ [g]) c = wt R gs c + (if firstC R g.p = c then g.n else 0) := by
  unfold wt
  rw [sumF_snoc]
  congr 1
  by_cases h : firstC R g.p = c <;> simp [h]
theorem votes_snoc_no {gs : List Grp} {rem : List Bool} {g : Grp} (h : g.p.find? (remB rem) = none) : votesS (gs ++ [g]) rem = votesS gs rem ∧ restS (gs ++ [g]) rem = restS gs rem + g.n := by
  have hf : firstC (remB rem) g.p = -1 := by unfold firstC; rw [h]; rfl
  refine ⟨?_, ?_⟩
  · unfold votesS
    refine List.map_congr_left fun i _ => ?_
    rw [wt_snoc, hf, if_neg (by omega), Int.add_zero]
  · unfold restS
    rw [wt_snoc, hf, if_pos rfl]
theorem votes_snoc_at {gs : List Grp} {rem : List Bool} {g : Grp} {y : Nat} (h : g.p.find? (remB rem) = some (y : Int)) : votesS (gs ++ [g]) rem = (votesS gs rem).set y ((votesS gs rem).getD y 0 + g.n) ∧ restS (gs ++ [g]) rem = restS gs rem ∧ y < rem.length := by
  have hf : firstC (remB rem) g.p = (y : Int) := by unfold firstC; rw [h]; rfl
  have hy : y < rem.length := by have := remB_lt (List.find?_some h); omega
  refine ⟨?_, ?_, hy⟩
  · refine List.ext_getElem? fun i => ?_
    rw [List.getElem?_set]
    have hl : (votesS gs rem).length = rem.length := by simp [votesS]
    have hg : (votesS gs rem).getD y 0 = wt (remB rem) gs y := by
      unfold votesS
      rw [List.getD_eq_getElem?_getD, List.getElem?_map, List.getElem?_range hy]
      rfl
    by_cases hi : i < rem.length
    · have e1 : ∀ gs, (votesS gs rem)[i]? = some (wt (remB rem) gs i) := fun gs => by
        unfold votesS
        rw [List.getElem?_map, List.getElem?_range hi]
        rfl
      rw [e1, wt_snoc, hf]
      by_cases e : y = i
      · subst e
        rw [if_pos rfl, if_pos rfl, if_pos (by rw [hl]; exact hy), hg]
      · rw [if_neg e, if_neg (by omega), e1, Int.add_zero]
    · have e1 : ∀ gs, (votesS gs rem)[i]? = none := fun gs => List.getElem?_eq_none (by simp [votesS]; omega)
      rw [e1, if_neg (by omega), e1]
  · unfold restS
    rw [wt_snoc, hf, if_neg (by omega), Int.add_zero]
theorem wt_tot {R : Int → Bool} {gs : List Grp} (hp : PosG gs) (c : Int) : 0 ≤ wt R gs c ∧ wt R gs c ≤ totS gs := ⟨sumF_nn hp, sumF_le hp fun _ _ _ => rfl⟩
theorem tot_take {gs : List Grp} (hp : PosG gs) (k : Nat) : totS (gs.take k) ≤ totS gs := by
  have e : totS gs = totS (gs.take k) + totS (gs.drop k) := by
    conv => lhs; rw [← List.take_append_drop k gs]
    unfold totS sumF
    rw [List.map_append, List.sum_append]
  have : 0 ≤ totS (gs.drop k) := sumF_nn fun x hx => hp x (List.mem_of_mem_drop hx)
  omega
theorem pos_take {gs : List Grp} (hp : PosG gs) (k : Nat) : PosG (gs.take k) := fun x hx => hp x (List.mem_of_mem_take hx)
theorem votes_nil (rem : List Bool) : votesS [] rem = List.replicate rem.length 0 := by
  unfold votesS
  refine List.ext_getElem? fun i => ?_
  rw [List.getElem?_map, List.getElem?_replicate]
  by_cases h : i < rem.length
  · rw [List.getElem?_range h, if_pos h]; rfl
  · rw [List.getElem?_eq_none (by simpa using h), if_neg h]; rfl

end Go.Proofs.Nums
namespace Go.Proofs.YtbnhgmikegdppaaGreat
open Go.RowKit Go.Proofs.Kit Go.Proofs.Nums

set_option maxRecDepth 100000 in
set_option maxHeartbeats 8000000 in
theorem first_c {v vr : Value} {gs : List Grp} {rem : List Bool} {w : World} (hv : PileAt w v gs) (hr : BoolsAt w vr rem) (hp : PileP 7 gs) (h1 : 1 ≤ rem.length) (h7 : rem.length ≤ 7) :
    Calls Tryz.prog 24 #[v, vr] w fun e w' => ∃ v', e = .returned (.tuple #[v', .int .i64 (restS gs rem)]) ∧ IntsAt w' v' (votesS gs rem) ∧ Fresh w.heap.size v' ∧ Below w.heap.size w w' := by
  have HP := Lib.hid hp
  obtain ⟨pr, cr, rfl⟩ := hr.shape
  have hbW : Below w.heap.size w (w.alloc (.cells #[.slice pr rem.length cr] 67)) := (Below.refl _ _).alloc (Nat.le_refl _) _
  have KB := Blk.new w #[.slice pr rem.length cr] 67
  obtain ⟨W, hW⟩ : ∃ W, w.alloc (.cells #[.slice pr rem.length cr] 67) = W := ⟨_, rfl⟩
  rw [hW] at hbW KB
  have k0 : W.cell? ⟨w.heap.size, 0, none⟩ = some (.slice pr rem.length cr) := KB.2.1 0
  have HV := Lib.hid (hv.keep hbW)
  have HR := Lib.hid (hr.keep hbW)
  have AN := isany_c HV.out
  rw [show pileS 7 gs = true from pile_true.2 hp] at AN
  have AN := Lib.hid AN
  have hlm := SliceOf.len hv
  obtain ⟨p, c, rfl⟩ := hv.shp
  obtain ⟨len, hlen⟩ : ∃ n, gs.length = n := ⟨_, rfl⟩
  obtain ⟨n, hn⟩ : ∃ n, rem.length = n := ⟨_, rfl⟩
  have HN := Lib.hid hlen
  have HM := Lib.hid hn
  rw [hlen] at HV hlm AN ⊢
  rw [hn] at HR h1 h7 k0 KB hW ⊢
  have KB := Lib.hid KB
  clear hv hr hp hlen hn
  have n7 : ¬ (7 : Int) < (n : Int) := by omega
  go_enter Tryz.func24, Tryz.ntmps24
  go_wp2_with (first
    | (go_at_call 48; ((with_reducible refine AN.out.mono ?_); rintro _ w1 ⟨rfl, hb1⟩; have k1 := cell_keep hb1 k0; have hB1 := bel2' hbW hb1))
    | (at_make; go_must (refine make_any erI rfl rfl rfl rfl (by omega) (by omega) (by omega) ?_); intro w7 hown7 hb7))
  rw [show ((n : Int)).toNat = n by omega] at *
  have own7 := OwnInt.made hown7
  clear hown7
  have hB7 := bel2' hB1 hb7
  have hWs : w.heap.size < w1.heap.size := Nat.lt_of_lt_of_le KB.out.1 hb1.size
  have HW1 : Hid (∀ w', Below w1.heap.size w1 w' → Below W.heap.size W w') := Lib.hid (fun w' h => bel2' hb1 h)
  obtain ⟨G, hG⟩ : ∃ G, w1.heap.size = G := ⟨_, rfl⟩
  have HGe := Lib.hid hG
  rw [hG] at own7 hb7 hWs ⊢
  clear AN
  go_loopw [5, 22] (fun sv iv wr => ∃ k : Nat, ∃ s : Int, k ≤ len ∧ iv = .int .i64 k ∧ sv = .int .i64 s ∧ Below G w1 wr ∧ OwnInt wr G G n (votesS (gs.take k) rem) ∧ Hid (s = restS (gs.take k) rem) ∧ 0 ≤ s ∧ s ≤ 100000) (fun _ iv _ => len - (intOf iv).toNat)
  case atStart => exact ⟨0, 0, by omega, rfl, rfl, hb7, by rw [List.take_zero, votes_nil, HM.out]; exact own7, Lib.hid rfl, by omega, by omega⟩
  case round =>
    obtain ⟨k, s, hk, rfl, rfl, hbel, hO, hS, s0, s1⟩ := hrel
    have hbelW : Below W.heap.size W wr := HW1.out wr (by rw [HGe.out]; exact hbel)
    by_cases hlt : k < len
    · have hltz : (k : Int) < (len : Int) := by omega
      obtain ⟨g, hg⟩ : ∃ g, gs.getD k g0 = g := ⟨_, rfl⟩
      obtain ⟨bb, off, q, m, d, hp0, hc1, hc2, cl0, cl1, HI, hm⟩ := (HV.out.keep hbelW).cellAt (by rw [HN.out]; exact hlt) hg
      subst hp0
      have hgm : g ∈ gs := mem_getG (by rw [HN.out]; exact hlt) hg
      have hbal := HP.out.bal g hgm
      have hpos := HP.out.pos g hgm
      have htk := take_snoc_g (l := gs) (k := k) (by rw [HN.out]; exact hlt)
      rw [hg] at htk
      have htb : totS (gs.take k) + g.n ≤ 100000 := by
        have h2 := tot_take HP.out.pos (k + 1)
        rw [htk, tot_snoc] at h2
        have := HP.out.tot
        omega
      have hpk := pos_take HP.out.pos k
      obtain ⟨y, hy⟩ : ∃ y, g.n = y := ⟨_, rfl⟩
      rw [hy] at cl1 hpos htb
      have HTK := Lib.hid htk
      have HY := Lib.hid hy
      have HIh := Lib.hid HI
      have HMm := Lib.hid hm
      have hbl : Below wr.heap.size wr (wr.alloc (.cells #[.slice q m d, .int .i64 y] 56)) := (Below.refl _ _).alloc (Nat.le_refl _) _
      have KX := Blk.new wr #[.slice q m d, .int .i64 y] 56
      obtain ⟨X, hX⟩ : ∃ X, wr.alloc (.cells #[.slice q m d, .int .i64 y] 56) = X := ⟨_, rfl⟩
      rw [hX] at hbl KX
      have hsz : w.heap.size < wr.heap.size := by have := hbelW.size; have := KB.out.1; omega
      have x0 : X.cell? ⟨wr.heap.size, 0, none⟩ = some (.slice q m d) := KX.2.1 0
      have x1 : X.cell? ⟨wr.heap.size, 1, none⟩ = some (.int .i64 y) := KX.2.1 1
      have hbX : Below W.heap.size W X := bel2' hbelW hbl
      have kX : X.cell? ⟨w.heap.size, 0, none⟩ = some (.slice pr n cr) := cell_keep hbX k0
      have IC := Lib.hid (indexfirst_c (rem := rem) (HIh.out.keep hbl) (fun x hx => (hbal.1 x hx).1) kX (HR.out.keep hbX))
      have hOX := hO.keep hbl
      have hGX : Below G w1 X := hbel.trans (hbl.mono (by have := hbel.size; rw [← HGe.out] at *; omega))
      rcases indexF_cases (remB rem) g.p with ⟨e1, e2⟩ | ⟨i, i0, e1, e2⟩
      · rw [e1] at IC
        obtain ⟨v1, v2⟩ := votes_snoc_no (gs := gs.take k) e2
        have hb := (wt_tot (R := remB rem) hpk (-1)).2
        have hws : IntKind.i64.wrap (s + y) = s + y := w64 (by omega) (by have := hS.out; unfold restS at this; omega)
        have hsb : s + y ≤ 100000 := by have := hS.out; unfold restS at this; omega
        have HO2 : Hid (OwnInt X G G n (votesS (gs.take (k + 1)) rem)) := Lib.hid (by rw [HTK.out, v1]; exact hOX)
        have HS2 : Hid (s + y = restS (gs.take (k + 1)) rem) := Lib.hid (by rw [HTK.out, v2, HY.out, hS.out])
        clear e1 e2 v1 v2 hb htk hg hy hm HI hO hOX hbal
        go_wp2_with (go_at_call 27; ((with_reducible refine IC.out.mono ?_); rintro _ _ ⟨rfl, rfl⟩))
        go_roundw
        case rel => exact ⟨k + 1, s + y, by omega, by go_num, rfl, hGX, HO2.out, HS2, by omega, hsb⟩
        case measure => simp [intOf] <;> omega
      · rw [e1] at IC
        obtain ⟨yv, hyv⟩ : ∃ z, g.p.getD i 0 = z := ⟨_, rfl⟩
        rw [hyv] at e2
        have hym := mem_getD i0 hyv
        have hy0 := (hbal.1 yv hym).1
        obtain ⟨yn, hyn⟩ : ∃ j : Nat, yv = j := ⟨yv.toNat, by omega⟩
        subst hyn
        obtain ⟨v1, v2, v3⟩ := votes_snoc_at (gs := gs.take k) e2
        rw [HM.out] at v3
        obtain ⟨b2, o2, hq, _, _, cy⟩ := (HIh.out.keep hbl).cellAt i i0
        subst hq
        rw [hyv] at cy
        have cv := hOX.cell v3
        have hg2 : (votesS (gs.take k) rem).getD yn 0 = wt (remB rem) (gs.take k) yn := by
          have := votes_get (gs := gs.take k) (rem := rem) (c := (yn : Int)) (by omega) (by rw [HM.out]; omega)
          exact this
        have hb := wt_tot (R := remB rem) hpk yn
        obtain ⟨u, hu⟩ : ∃ u, (votesS (gs.take k) rem).getD yn 0 = u := ⟨_, rfl⟩
        rw [hu] at hg2 cv v1
        rw [← hg2] at hb
        have hws : IntKind.i64.wrap (u + y) = u + y := w64 (by omega) (by omega)
        have hfr := hOX.free yn
        have hput := (hOX.keep ((Below.refl _ _).drew)).put yn (u + y)
        have HO2 : Hid (OwnInt (X.drew.setCell ⟨G, yn, none⟩ (.int .i64 (u + y))) G G n (votesS (gs.take (k + 1)) rem)) := Lib.hid (by rw [HTK.out, v1, HY.out]; exact hput.1)
        have HS2 : Hid (s = restS (gs.take (k + 1)) rem) := Lib.hid (by rw [HTK.out, v2, hS.out])
        have HB2 : Hid (Below G w1 (X.drew.setCell ⟨G, yn, none⟩ (.int .i64 (u + y)))) := Lib.hid (hGX.drew.setCell (Nat.le_refl _) _)
        have iz : (i : Int) < (m : Int) := by rw [HMm.out]; omega
        have yz : (yn : Int) < (n : Int) := by omega
        have iz0 : ¬ (i : Int) < 0 := by omega
        clear e1 e2 v1 v2 hb htk hg hy hm HI hO hOX hbal hput hu hg2 hyv hym
        go_wp2_with (go_at_call 27; ((with_reducible refine IC.out.mono ?_); rintro _ _ ⟨rfl, rfl⟩))
        go_region
        all_goals
          go_wp2_with fail
          go_roundw
          case rel => exact ⟨k + 1, s, by omega, by go_num, rfl, HB2.out, HO2.out, HS2, s0, s1⟩
          case measure => simp [intOf] <;> omega
    · have hltz : ¬ (k : Int) < (len : Int) := by omega
      have e : gs.take k = gs := List.take_of_length_le (by rw [HN.out]; omega)
      rw [e] at hO hS
      have hO := Lib.hid hO
      go_wp2_with fail
      go_ret2
      exact ⟨_, by rw [hS.out]; rfl, hO.out.read, fun b hb => by (have : G = b := by simpa [Value.ownBlock] using hb); omega, hbW.trans (hbelW.mono (by have := hbW.size; omega))⟩

end Go.Proofs.YtbnhgmikegdppaaGreat

/- The state of a count; (*count).left. -/
namespace Go.Proofs.Nums

/-- Who remains of the first k. -/
def aliveTo (rem : List Bool) (k : Nat) : List Int := ((List.range k).map fun i : Nat => (i : Int)).filter (remB rem)
theorem aliveTo_all (rem : List Bool) : aliveTo rem rem.length = aliveS rem := rfl
theorem aliveTo_yes {rem : List Bool} {k : Nat} (h : remB rem k = true) : aliveTo rem (k + 1) = aliveTo rem k ++ [(k : Int)] := by
  unfold aliveTo
  rw [List.range_succ, List.map_append, List.filter_append]
  simp [h]
theorem aliveTo_no {rem : List Bool} {k : Nat} (h : remB rem k = false) : aliveTo rem (k + 1) = aliveTo rem k := by
  unfold aliveTo
  rw [List.range_succ, List.map_append, List.filter_append]
  simp [h]
theorem aliveTo_len (rem : List Bool) (k : Nat) : (aliveTo rem k).length ≤ k := by
  unfold aliveTo
  exact Nat.le_trans (List.length_filter_le _ _) (by simp)

end Go.Proofs.Nums
namespace Go.Proofs.YtbnhgmikegdppaaGreat
open Go.RowKit Go.Proofs.Kit Go.Proofs.Nums

/-- The cells of irv's count: contest (9), groups, lots, remain, earlier. -/
def cntA (c0 c1 c2 c3 c4 c5 : Value) (ties : Int) (c7 c8 vg vl vr ve : Value) : Array Value := #[c0, c1, c2, c3, c4, c5, .int .i64 ties, c7, c8, vg, vl, vr, ve]

set_option maxHeartbeats 2000000 in
theorem left_c {B : Nat} {c0 c1 c2 c3 c4 c5 c7 c8 vg vl vr ve : Value} {ties : Int} {rem : List Bool} {w : World} (hB : Blk B (cntA c0 c1 c2 c3 c4 c5 ties c7 c8 vg vl vr ve) w) (hr : BoolsAt w vr rem) (h7 : rem.length ≤ 7) :
    Calls Tryz.prog 26 #[.pointer (some ⟨B, 0, none⟩)] w fun e w' => ∃ v', e = .returned v' ∧ IntsAt w' v' (aliveS rem) ∧ Fresh w.heap.size v' ∧ Below w.heap.size w w' := by
  have H := Lib.hid hr
  obtain ⟨p, c, rfl⟩ := hr.shape
  have k11 : w.cell? ⟨B, 11, none⟩ = some (.slice p rem.length c) := hB.2.1 11
  have kfz : B < w.heap.size := hB.1
  obtain ⟨len, hlen⟩ : ∃ n, rem.length = n := ⟨_, rfl⟩
  have HN := Lib.hid hlen
  rw [hlen] at H k11 h7
  clear hr hlen hB
  go_enter Tryz.func26, Tryz.ntmps26
  go_wp2_with fail
  go_loopw [3, 11] (fun ov iv wr => ∃ k m : Nat, k ≤ len ∧ iv = .int .i64 k ∧ wr.ownsRow w.heap.size 3 1 ov m ((aliveTo rem k).map (Value.int .i64)) ∧ Below w.heap.size w wr) (fun _ iv _ => len - (intOf iv).toNat)
  case atStart => exact ⟨0, 0, by omega, rfl, (World.ownsRow_nil _ _ _ _ : w.ownsRow w.heap.size 3 1 (.slice none 0 0) 0 []), Below.refl _ _⟩
  case round =>
    obtain ⟨k, m, hk, rfl, hown, hbel⟩ := hrel
    by_cases hlt : k < len
    · have hltz : (k : Int) < (len : Int) := by omega
      have hm2 : m ≤ k := by
        have h1 := hown.1
        have h2 := aliveTo_len rem k
        rw [List.length_map] at h1
        omega
      obtain ⟨bb, off, hp0, hc1, hc2, hcell⟩ := (H.out.keep hbel).cellAt k (by rw [HN.out]; exact hlt)
      subst hp0
      rw [← remB_at] at hcell
      cases hb : remB rem k
      · rw [hb] at hcell
        have HR := Lib.hid (aliveTo_no hb)
        clear hb
        go_wp2_with fail
        go_roundw
        case rel => exact ⟨k + 1, m, by omega, by go_num, by rw [HR.out]; exact hown, hbel⟩
        case measure => simp [intOf] <;> omega
      · rw [hb] at hcell
        have HR := Lib.hid (aliveTo_yes hb)
        clear hb
        go_wp2_with (at_builtin; go_must (refine append_one erI rfl rfl hown rfl rfl rfl (by simp [Value.oneCell']) (by omega) (by omega) hbel.size ?_); intro v' w1 hown1 _ hb1 hne1)
        go_roundw
        case rel =>
          refine ⟨k + 1, m + 1, by omega, by go_num, ?_, hbel.trans hb1⟩
          rw [HR.out, List.map_append]
          exact hown1
        case measure => simp [intOf] <;> omega
    · obtain rfl : k = len := by omega
      have HI : Hid (IntsAt wr u3 (aliveS rem)) := Lib.hid (by rw [← aliveTo_all, HN.out]; exact ints_owned hown)
      have HF := Lib.hid (Fresh.owned hown)
      clear hown
      go_wp2_with fail
      go_ret
      exact ⟨_, rfl, HI.out, HF.out, hbel⟩

end Go.Proofs.YtbnhgmikegdppaaGreat

/- nat.Clone, Norm and Of hand back new memory. -/
namespace Go.Proofs.YtbnhgmikegdppaaGreat
open Go.RowKit Go.Proofs.Kit Go.Proofs.Nums

set_option maxHeartbeats 1000000 in
theorem clone_f (v : Value) (l : List Nat) (w : World) (h : NatAt w v l) (hl : l.length ≤ 1000000000) :
    Calls Tryz.prog 99 #[v] w fun e w' => ∃ v', e = .returned v' ∧ NatAt w' v' l ∧ Fresh w.heap.size v' ∧ Below w.heap.size w w' := by
  have own0 : ∀ w : World, (w.alloc (.cells #[] 119)).ownsRow w.heap.size 119 1 (.slice (some ⟨w.heap.size, 0, none⟩) 0 0) 0 [] := fun w =>
    World.ownsRow_lit w #[] 0 (Nat.le_refl _) (Nat.zero_le _) rfl
  rcases h.cases with ⟨rfl, p, cap, rfl, _, h3⟩ | ⟨h1, b, off, cap, rfl, hc, hm, hb, hcell⟩
  · cases p with
    | none =>
      obtain rfl := h3 rfl
      have H := Lib.hid h
      clear h hl
      have heqn := fun (w : World) (a : Option Addr) (n c : Nat) => Lib.run_eql_slice_nil (P := Tryz.prog) w 49 119 a n c 0 0 Tryz.underlying49
      go_enter Tryz.func99, Tryz.ntmps99
      go_wp2_with fail
      go_ret
      exact ⟨_, rfl, NatAt.nil w, fun b hb => by simp [Value.ownBlock] at hb, Below.refl _ _⟩
    | some q =>
      have H := Lib.hid h
      have O := Lib.hid (own0 w)
      clear h own0 hl
      have heqn := fun (w : World) (a : Option Addr) (n c : Nat) => Lib.run_eql_slice_nil (P := Tryz.prog) w 49 119 a n c 0 0 Tryz.underlying49
      go_enter Tryz.func99, Tryz.ntmps99
      go_wp2_with (at_builtin; (refine append_row er49 (base := w.heap.size) (n := 0) (xs := []) (news := []) (by rfl) (by rfl) O.out (by rfl) (by rfl) (by rfl) (fun j u h => by simp at h) (fun u h => by simp at h) (by omega) (by omega) (by simp) ?_); intro v' w1 hown1 _ hb1)
      go_ret
      refine ⟨_, rfl, ⟨by simpa using RowAt.owned hown1, Lim.nil⟩, Fresh.owned hown1, (below_new hb1)⟩
  · have H := Lib.hid h
    have O := Lib.hid (own0 w)
    have hcells : ∀ j u, (l.map limbV)[j]? = some u → (w.alloc (.cells #[] 119)).cell? ((⟨b, off, none⟩ : Addr).add j) = some u := fun j u hj => by
      rw [Addr.add_lit]
      refine cell_alloc_old ?_
      rw [List.getElem?_map] at hj
      cases hlj : l[j]? with
      | none => rw [hlj] at hj; simp at hj
      | some x =>
        have hjl := (List.getElem?_eq_some_iff.1 hlj).1
        rw [hlj] at hj
        simp at hj
        rw [hcell j hjl, nth_lt hjl, (List.getElem?_eq_some_iff.1 hlj).2, ← hj]
        rfl
    have HCS := Lib.hid hcells
    have hone : ∀ u ∈ l.map limbV, u.oneCell' = true := fun u hu => by
      obtain ⟨x, _, rfl⟩ := List.mem_map.1 hu; rfl
    have HO := Lib.hid hone
    clear h hcell own0 hcells hone
    have heqn := fun (w : World) (a : Option Addr) (n c : Nat) => Lib.run_eql_slice_nil (P := Tryz.prog) w 49 119 a n c 0 0 Tryz.underlying49
    go_enter Tryz.func99, Tryz.ntmps99
    go_wp2_with (at_builtin; go_must (refine append_row er49 (base := w.heap.size) (n := 0) (xs := []) (news := l.map limbV) (by rfl) (by rfl) O.out (by rfl) (by rfl) (by rw [List.length_map, Nat.mul_one]) HCS.out HO.out (by omega) (by omega) (by simp) ?_); intro v' w1 hown1 _ hb1)
    go_ret
    refine ⟨_, rfl, ⟨by simpa using RowAt.owned hown1, H.out.2⟩, Fresh.owned hown1, (below_new hb1)⟩



set_option maxHeartbeats 1000000 in
theorem norm_f (v : Value) (l : List Nat) (w : World) (h : NatAt w v l) (hl : l.length ≤ 1000000000) :
    Calls Tryz.prog 88 #[v] w fun e w' => ∃ v', e = .returned v' ∧ NatAt w' v' (limbs (val l)) ∧ Fresh w.heap.size v' ∧ Below w.heap.size w w' := by
  have hlen : (limbs (val l)).length ≤ 1000000000 := Nat.le_trans (limbs_len_le _ _ (val_lt l h.2)) hl
  have H := Lib.hid h
  clear h
  go_enter Tryz.func88, Tryz.ntmps88
  go_wp2_with (first
    | (go_at_call 96; refine (trim_any _ _ _ H.out).mono ?_; rintro e w1 ⟨v1, rfl, hv1, rfl⟩)
    | (go_at_call 99; refine (clone_f _ _ _ hv1 hlen).mono ?_; rintro e w2 ⟨v2, rfl, hv2, hf2, hb2⟩))
  go_ret
  exact ⟨_, rfl, hv2, hf2, hb2⟩

set_option maxHeartbeats 1000000 in
theorem of_f (n : Nat) (w : World) (hn : n < 18446744073709551616) :
    Calls Tryz.prog 70 #[.int .u64 n] w fun e w' => ∃ v', e = .returned v' ∧ NatAt w' v' (limbs n) ∧ Fresh w.heap.size v' ∧ Below w.heap.size w w' := by
  have hlow : n % 4294967296 < 4294967296 := Nat.mod_lt _ (by omega)
  have hhigh : n / 4294967296 < 4294967296 := by omega
  have hA := NatAt.lit2 w (n % 4294967296) (n / 4294967296) hlow hhigh
  have hv : val [n % 4294967296, n / 4294967296] = n := by simp only [val]; omega
  have HA := Lib.hid hA
  have HV := Lib.hid hv
  clear hA hv
  go_enter Tryz.func70, Tryz.ntmps70
  go_wp2_with (go_at_call 88; refine (norm_f _ _ _ HA.out (by simp)).mono ?_; rw [HV.out]; rintro e w1 ⟨v1, rfl, hv1, hf1, hb1⟩)
  go_ret
  exact ⟨_, rfl, hv1, hf1.mono (by simp), below_on hb1⟩

end Go.Proofs.YtbnhgmikegdppaaGreat

/- nat.Div by one limb: the quotient is new memory. -/
namespace Go.Proofs.YtbnhgmikegdppaaGreat
open Go.RowKit Go.Proofs.Kit Go.Proofs.Nums

set_option maxHeartbeats 2000000 in
theorem div_f {va vb : Value} {n m L M : Nat} {w : World} (ha : Num w va n L) (hb : Num w vb m M) (hL : L ≤ 1000000) (hnm : m ≤ n) (hm0 : 0 < m) (hm1 : m < 4294967296) :
    Calls Tryz.prog 87 #[va, vb] w fun e w' => ∃ vq vr, e = .returned (.tuple #[vq, vr, .bool true]) ∧ Nrm w' vq (n / m) L ∧ Fresh w.heap.size vq ∧ Below w.heap.size w w' := by
  have hnL : n / m < 4294967296 ^ L := Nat.lt_of_le_of_lt (Nat.div_le_self _ _) ha.lt
  have hmM : n % m < 4294967296 ^ M := Nat.lt_trans (Nat.mod_lt _ hm0) hb.lt
  obtain ⟨a, h1, hn, h3⟩ := ha
  obtain ⟨b, k1, hm, k3⟩ := hb
  have ca := trim_any va a w h1
  have cb := trim_any vb b w k1
  rw [hn] at ca
  rw [hm] at cb
  have lx := limbs_len_le (val a) a.length (val_lt a h1.2)
  rw [hn] at lx
  have hlim : limbs m = [m] := by rw [limbs_pos m (by omega), Nat.mod_eq_of_lt hm1, Nat.div_eq_of_lt hm1]; rfl
  rw [hlim] at cb
  obtain ⟨c, hc⟩ : ∃ c, cmpN n m = c := ⟨_, rfl⟩
  have hc0 : 0 ≤ c := by rw [← hc]; unfold cmpN; rw [if_neg (by omega)]; split <;> omega
  have CM : Hid (∀ v1 v2 w, NatAt w v1 (limbs n) → NatAt w v2 [m] → Calls Tryz.prog 98 #[v1, v2] w fun e w' => e = .returned (.int .i64 c) ∧ Below w.heap.size w w') := Lib.hid (fun v1 v2 w h h' => by
    have := cmp_any v1 v2 _ _ w h h' (by omega) (by simp)
    rw [val_limbs, ← hlim, val_limbs, hc] at this; exact this)
  have SD : Hid (∀ v w, NatAt w v (limbs n) → Calls Tryz.prog 100 #[v, .int .u64 m] w fun e w' => ∃ v', e = .returned (.tuple #[v', .int .u64 ((n % m : Nat) : Int)]) ∧ (∃ q, NatAt w' v' q ∧ val q = n / m ∧ q.length ≤ 1000000) ∧ Below w.heap.size w w') := Lib.hid (fun v w h => by
    have := sdiv_any v _ m w h (by omega) hm0 hm1
    rw [val_limbs] at this
    exact this.mono fun e w' ⟨v', e1, ⟨q, q1, q2, q3, _⟩, e3⟩ => ⟨v', e1, ⟨q, q1, q2, by omega⟩, e3⟩)
  have NO : Hid (∀ v w q, NatAt w v q → Hid (val q = n / m ∧ q.length ≤ 1000000) → Calls Tryz.prog 88 #[v] w fun e w' => ∃ v', e = .returned v' ∧ NatAt w' v' (limbs (n / m)) ∧ Fresh w.heap.size v' ∧ Below w.heap.size w w') := Lib.hid (fun v w q h h' => by
    have := norm_f v q w h (by have := h'.out.2; omega)
    rw [h'.out.1] at this; exact this)
  obtain ⟨R, hR⟩ : ∃ R, n % m = R := ⟨_, rfl⟩
  rw [hR] at SD
  have OF : Hid (∀ w, Calls Tryz.prog 70 #[.int .u64 R] w fun e w' => ∃ v', e = .returned v' ∧ NatAt w' v' (limbs R) ∧ Below w.heap.size w w') := Lib.hid (fun w => of_any R w (by have := Nat.mod_lt n hm0; omega))
  have CA := Lib.hid ca
  have CB := Lib.hid cb
  have HF : Hid (n % m = R ∧ n / m < 4294967296 ^ L ∧ n % m < 4294967296 ^ M) := Lib.hid ⟨hR, hnL, hmM⟩
  clear ca cb h1 k1 hn hm h3 k3 hnL hmM hnm lx hR hlim hc
  go_enter Tryz.func87, Tryz.ntmps87
  go_wp2_with (first
    | (go_at_call 96; ((with_reducible refine CA.out.mono ?_); rintro e w1 ⟨v1, rfl, hv1, rfl⟩))
    | (go_at_call 96; ((with_reducible refine CB.out.mono ?_); rintro e w2 ⟨v2, rfl, hv2, rfl⟩; obtain ⟨p2, c2, rfl⟩ := hv2.shape; rw [show [m].length = 1 from rfl] at hv2))
    | (go_at_call 98; ((with_reducible refine (CM.out _ _ _ hv1 hv2).mono ?_); rintro e w3 ⟨rfl, hb3⟩; have hv2b := hv2.keep hb3; obtain ⟨b1, o1, rfl, hk1, hm1, q1⟩ := hv2b.cellAt 0 (by simp); rw [show nth [m] 0 = m from rfl, Nat.add_zero] at q1; rw [show [m].length = 1 from rfl] at hk1; clear hv2b hv2))
    | (go_at_call 100; ((with_reducible refine (SD.out _ _ (hv1.keep hb3)).mono ?_); rintro e w4 ⟨v4, rfl, ⟨q, hq1, hq2⟩, hb4⟩; have hb4' := bel2' hb3 hb4; have HQ2 := Lib.hid hq2; clear hq2))
    | (go_at_call 88; ((with_reducible refine (NO.out _ _ _ hq1 HQ2).mono ?_); rintro e w5 ⟨v5, rfl, hv5, hf5, hb5⟩; have hb5' := bel2' hb4' hb5))
    | (go_at_call 70; ((with_reducible refine (OF.out _).mono ?_); rintro e w6 ⟨v6, rfl, hv6, hb6⟩; have hb6' := bel2' hb5' hb6)))
  go_ret3
  obtain ⟨f1, f2, f3⟩ := HF.out
  exact ⟨_, _, rfl, ⟨hv5.keep hb6, f2⟩, hf5.mono hb4'.size, hb6'⟩

end Go.Proofs.YtbnhgmikegdppaaGreat

/- ratio.Of hands back new memory. -/
namespace Go.Proofs.YtbnhgmikegdppaaGreat
open Go.RowKit Go.Proofs.Kit Go.Proofs.Nums

theorem nrm_one_f (w : World) : Calls Tryz.prog 70 #[.int .u64 1] w fun e w' => ∃ v', e = .returned v' ∧ Nrm w' v' 1 2 ∧ Fresh w.heap.size v' ∧ Below w.heap.size w w' :=
  (of_f 1 w (by omega)).mono fun _ _ ⟨v, h1, h2, h3, h4⟩ => ⟨v, h1, ⟨h2, by decide⟩, h3, h4⟩
set_option maxHeartbeats 1000000 in
theorem zero_f (w : World) : Calls Tryz.prog 85 #[] w (GivesF ⟨false, 0, 1⟩ 2 w) := by
  have OF := Lib.hid nrm_one_f
  go_enter Tryz.func85, Tryz.ntmps85
  go_wp2_with (go_at_call 70; ((with_reducible refine (OF.out _).mono ?_); rintro e w1 ⟨v1, rfl, hv1, hf1, hb1⟩; obtain ⟨p1, c1', rfl⟩ := hv1.1.shape; have c0 := new_cell hb1 0; have c1 := new_cell hb1 1; have c2 := new_cell hb1 2; have f0 := new_free hb1 0; have f1 := new_free hb1 1; have f2 := new_free hb1 2; simp at c0 c1 c2))
  have HN := Lib.hid (noLimb_new hb1 (noLimb3 (by simp) (by simp) (by simp)))
  have hf1 := Lib.hid (hf1.mono (B' := w.heap.size) (by simp))
  refine bodyPost_ret (v := .agg #[.bool false, .slice none 0 0, .slice p1 (limbs 1).length c1']) (by simp [results, Tryz.results85, go_sem, c0, c1, c2]) rfl ?_
  exact ⟨_, _, _, _, _, _, rfl, ⟨_, _, rfl, (nrm_nil' _ _).off (heap_set3 _ _ _ _ _) HN.out, hv1.off (heap_set3 _ _ _ _ _) HN.out⟩, fun b hb => by simp [Value.ownBlock] at hb, hf1.out, below_set3 (below_on hb1) (Nat.le_refl _) _ _ _⟩

set_option maxHeartbeats 2000000 in
theorem make_f {vn vd : Value} {n : Nat} {w : World} (hn : Num w vn n 2) (hd : Num w vd 1 2) :
    Calls Tryz.prog 68 #[.bool false, vn, vd] w (GivesF (Q.mk' false n 1) 2 w) := by
  have Z := Lib.hid zero_f
  have ka : ∀ {o : Obj} {v : Value} {n : Nat}, Num w v n 2 → Num (w.alloc o) v n 2 := fun h => h.keep ((Below.refl _ _).alloc (Nat.le_refl _) _)
  have hn' := fun o => ka (o := o) hn
  have hd' := fun o => ka (o := o) hd
  have HN := Lib.hid hn'
  have HD := Lib.hid hd'
  clear hn hd hn' hd' ka
  rcases Nat.eq_zero_or_pos n with h0 | h0
  · subst h0
    rw [Q.mk'_zero (.inl rfl)]
    go_enter Tryz.func68, Tryz.ntmps68
    go_wp2_with (first
      | (go_at_call 84; ((with_reducible refine (bits_zero_n (HN.out _) (by omega)).mono ?_); rintro e w1 ⟨rfl, hb1⟩))
      | (go_at_call 85; ((with_reducible refine (Z.out _).mono ?_); rintro e w2 ⟨p1, l1, k1, p2, l2, k2, rfl, hv2, hf1, hf2, hb2⟩; obtain ⟨vn', vd', e9, hvn, hvd⟩ := hv2; simp at e9; obtain ⟨rfl, rfl⟩ := e9; have hb2' := bel2' hb1 hb2; have hs1 := hb1.size; have c0 := new_cell hb2' 0; have c1 := new_cell hb2' 1; have c2 := new_cell hb2' 2; have f0 := new_free hb2' 0; have f1 := new_free hb2' 1; have f2 := new_free hb2' 2; simp at c0 c1 c2 hs1)))
    have hf1 := Lib.hid (hf1.mono (B' := w.heap.size) (by omega))
    have hf2 := Lib.hid (hf2.mono (B' := w.heap.size) (by omega))
    refine bodyPost_ret (v := .agg #[.bool false, .slice p1 l1 k1, .slice p2 l2 k2]) (by simp [results, Tryz.results68, go_sem, c0, c1, c2]) rfl ?_
    obtain ⟨g1, g2⟩ := ret3 (q := ⟨false, 0, 1⟩) hb2' (Nat.le_refl _) (Below.refl _ _) hvn hvd _ rfl
    exact ⟨_, _, _, _, _, _, rfl, g1, hf1.out, hf2.out, g2⟩
  · rw [Q.mk'_pos h0 (by omega)]
    have HP := Lib.hid h0
    clear h0
    have e1 : Nat.gcd n 1 = 1 := Nat.gcd_one_right n
    have GC : Hid (∀ va vb w, Num w va n 2 → Num w vb 1 2 → Calls Tryz.prog 86 #[va, vb] w fun e w' => ∃ v', e = .returned v' ∧ Nrm w' v' 1 2 ∧ Below w.heap.size w w') := Lib.hid (fun va vb w h h' => by have := gcd_num h h' (by omega); rw [e1] at this; exact this)
    rw [e1]
    have D1 : Hid (∀ va vb w, Num w va n 2 → Num w vb 1 2 → Calls Tryz.prog 87 #[va, vb] w fun e w' => ∃ vq vr, e = .returned (.tuple #[vq, vr, .bool true]) ∧ Nrm w' vq (n / 1) 2 ∧ Fresh w.heap.size vq ∧ Below w.heap.size w w') := Lib.hid (fun va vb w h h' => div_f h h' (by omega) HP.out (by omega) (by omega))
    have D2 : Hid (∀ va vb w, Num w va 1 2 → Num w vb 1 2 → Calls Tryz.prog 87 #[va, vb] w fun e w' => ∃ vq vr, e = .returned (.tuple #[vq, vr, .bool true]) ∧ Nrm w' vq (1 / 1) 2 ∧ Fresh w.heap.size vq ∧ Below w.heap.size w w') := Lib.hid (fun va vb w h h' => div_f h h' (by omega) (by omega) (by omega) (by omega))
    clear e1
    go_enter Tryz.func68, Tryz.ntmps68
    go_wp2_with (first
      | (go_at_call 84; ((with_reducible refine (bits_pos_n (HN.out _) (by omega) HP.out).mono ?_); rintro e w1 ⟨kk, rfl, hkk, hb1⟩; have hd1 := (HD.out _).keep hb1; have hn1 := (HN.out _).keep hb1))
      | (go_at_call 84; ((with_reducible refine (bits_pos_n hd1 (by omega) (by omega)).mono ?_); rintro e w2 ⟨kd, rfl, hkd, hb2⟩; have hb2' := bel2' hb1 hb2; have hd2 := hd1.keep hb2; have hn2 := hn1.keep hb2; clear hd1 hn1))
      | (go_at_call 86; ((with_reducible refine (GC.out _ _ _ hn2 hd2).mono ?_); rintro e w3 ⟨v3, rfl, hg3, hb3⟩; have hb3' := bel2' hb2' hb3; have hd3 := hd2.keep hb3; have hn3 := hn2.keep hb3; clear hd2 hn2))
      | (go_at_call 87; ((with_reducible refine (D1.out _ _ _ hn3 hg3.num).mono ?_); rintro e w4 ⟨vq4, vr4, rfl, hq4, hf4, hb4⟩; have hb4' := bel2' hb3' hb4; have hd4 := hd3.keep hb4; have hg4 := hg3.keep hb4; clear hn3 hd3 hg3))
      | (go_at_call 87; ((with_reducible refine (D2.out _ _ _ hd4 hg4.num).mono ?_); rintro e w5 ⟨vq5, vr5, rfl, hq5, hf5, hb5⟩; have hb5' := bel2' hb4' hb5; have hs3 := hb3'.size; have hs4 := hb4'.size; have hq4b := hq4.keep hb5; obtain ⟨p1, l1, k1, rfl⟩ := hq4b.shape; obtain ⟨p2, l2, k2, rfl⟩ := hq5.shape; have c0 := new_cell hb5' 0; have c1 := new_cell hb5' 1; have c2 := new_cell hb5' 2; have f0 := new_free hb5' 0; have f1 := new_free hb5' 1; have f2 := new_free hb5' 2; simp at c0 c1 c2 hs3 hs4)))
    have hf4 := Lib.hid (hf4.mono (B' := w.heap.size) (by omega))
    have hf5 := Lib.hid (hf5.mono (B' := w.heap.size) (by omega))
    refine bodyPost_ret (v := .agg #[.bool false, .slice p1 l1 k1, .slice p2 l2 k2]) (by simp [results, Tryz.results68, go_sem, c0, c1, c2]) rfl ?_
    obtain ⟨g1, g2⟩ := ret3 (q := ⟨false, n / 1, 1 / 1⟩) hb5' (Nat.le_refl _) (Below.refl _ _) hq4b hq5 _ rfl
    exact ⟨_, _, _, _, _, _, rfl, g1, hf4.out, hf5.out, g2⟩

end Go.Proofs.YtbnhgmikegdppaaGreat

/- ratio.Of of a number that is not negative; irv.ratios. -/
namespace Go.Proofs.YtbnhgmikegdppaaGreat
open Go.RowKit Go.Proofs.Kit Go.Proofs.Nums

set_option maxHeartbeats 1000000 in
theorem of_q (n : Nat) (hn : n ≤ 1000000) (w : World) : Calls Tryz.prog 52 #[.int .i64 n] w (GivesF (wholeQ n) 2 w) := by
  have SZ : Hid (∀ w, Calls Tryz.prog 69 #[.int .i64 n] w fun e w' => ∃ v', e = .returned v' ∧ Nrm w' v' n 2 ∧ Below w.heap.size w w') := Lib.hid (fun w => by
    have := size_z (z := (n : Int)) (L := 2) (w := w) (by omega) (by omega) (Nat.le_refl _)
    rw [Int.natAbs_natCast] at this; exact this)
  have OF := Lib.hid nrm_one_f
  have MK : Hid (∀ vn vd w, Num w vn n 2 → Num w vd 1 2 → Calls Tryz.prog 68 #[.bool false, vn, vd] w (GivesF (Q.mk' false n 1) 2 w)) := Lib.hid (fun vn vd w h h' => make_f h h')
  rw [show wholeQ n = Q.mk' false n 1 by unfold wholeQ; rw [Int.toNat_natCast]]
  have hneg : decide ((n : Int) < 0) = false := decide_eq_false (by omega)
  obtain ⟨q, hq⟩ : ∃ q, Q.mk' false n 1 = q := ⟨_, rfl⟩
  rw [hq] at MK ⊢
  clear hq hn
  go_enter Tryz.func52, Tryz.ntmps52
  go_wp2_with (first
    | (go_at_call 69; ((with_reducible refine (SZ.out _).mono ?_); rintro e w1 ⟨v1, rfl, hv1, hb1⟩))
    | (go_at_call 70; ((with_reducible refine (OF.out _).mono ?_); rintro e w2 ⟨v2, rfl, hv2, _, hb2⟩; have hb2' := bel2' hb1 hb2; have h12 := hv1.keep hb2))
    | (go_at_call 68; ((with_reducible refine (MK.out _ _ _ h12.num hv2.num).mono ?_); rintro e w3 ⟨a1, b1, e1, a2, b2, e2, rfl, hv3, hf1, hf2, hb3⟩; obtain ⟨vn', vd', e9, hvn, hvd⟩ := hv3; simp at e9; obtain ⟨rfl, rfl⟩ := e9; have hs2 := hb2'.size; have hb3' := bel2' hb2' hb3; have c0 := new_cell hb3' 0; have c1 := new_cell hb3' 1; have c2 := new_cell hb3' 2; have f0 := new_free hb3' 0; have f1 := new_free hb3' 1; have f2 := new_free hb3' 2; simp at c0 c1 c2 hs2)))
  have hf1 := Lib.hid (hf1.mono (B' := w.heap.size) (by omega))
  have hf2 := Lib.hid (hf2.mono (B' := w.heap.size) (by omega))
  refine bodyPost_ret (v := .agg #[.bool q.neg, .slice a1 b1 e1, .slice a2 b2 e2]) (by simp [results, Tryz.results52, go_sem, c0, c1, c2]) rfl ?_
  obtain ⟨g1, g2⟩ := ret3 (q := q) hb3' (Nat.le_refl _) (Below.refl _ _) hvn hvd _ rfl
  exact ⟨_, _, _, _, _, _, rfl, g1, hf1.out, hf2.out, g2⟩
theorem of_m (n : Nat) (hn : n ≤ 1000000) (w : World) :
    Calls Tryz.prog 52 #[.int .i64 n] w fun e w' => ∃ p l k p' l' k', e = .returned (.agg #[.bool false, .slice p l k, .slice p' l' k']) ∧ Made w.heap.size (fun w => ratR w [.bool false, .slice p l k, .slice p' l' k'] (wholeQ n)) w' ∧ Below w.heap.size w w' := by
  refine (of_q n hn w).mono ?_
  rintro e w' ⟨p, l, k, p', l', k', rfl, h1, f1, f2, hb⟩
  have hneg : (wholeQ n).neg = false := mk'_pos
  rw [hneg] at h1
  exact ⟨p, l, k, p', l', k', by rw [hneg], ratR_made h1 (by unfold wholeQ; rw [Int.toNat_natCast]; exact ShQ.frac (by omega) (by omega)) f1 f2, hb⟩

set_option maxRecDepth 100000 in
set_option maxHeartbeats 4000000 in
theorem ratios_c {v : Value} {l : List Int} {w : World} (hv : IntsAt w v l) (hr : ∀ x ∈ l, 0 ≤ x ∧ x ≤ 1000000) (hl : l.length ≤ 1000) :
    Calls Tryz.prog 51 #[v] w fun e w' => ∃ v', e = .returned v' ∧ (∃ css, RLst w.heap.size v' w' (wholesS l) css) ∧ Below w.heap.size w w' := by
  have HV := Lib.hid hv
  have HR := Lib.hid hr
  obtain ⟨p, c, rfl⟩ := hv.shape
  obtain ⟨len, hlen⟩ : ∃ n, l.length = n := ⟨_, rfl⟩
  have HN := Lib.hid hlen
  rw [hlen] at HV hl ⊢
  clear hv hr hlen
  go_enter Tryz.func51, Tryz.ntmps51
  go_wp2_with fail
  go_loopw [3, 8] (fun ov iv wr => ∃ k : Nat, ∃ qs : List Q, ∃ css, k ≤ len ∧ qs.length = k ∧ iv = .int .i64 k ∧ Below w.heap.size w wr ∧ Hid (RLst w.heap.size ov wr qs css) ∧ Hid (qs = wholesS (l.take k))) (fun _ iv _ => len - (intOf iv).toNat)
  case atStart => exact ⟨0, [], [], by omega, rfl, rfl, Below.refl _ _, Lib.hid (Lst.nil _), Lib.hid rfl⟩
  case round =>
    obtain ⟨k, qs, css, hk, hqs, rfl, hbel, hL, hQ⟩ := hrel
    by_cases hlt : k < len
    · have hltz : (k : Int) < (len : Int) := by omega
      obtain ⟨bb, off, hp0, hc1, hc2, hcell⟩ := (HV.out.keep hbel).cellAt k (by rw [HN.out]; exact hlt)
      subst hp0
      have hmem := HR.out (l.getD k 0) (mem_getD (by rw [HN.out]; exact hlt) rfl)
      obtain ⟨y, hy⟩ : ∃ y, l.getD k 0 = y := ⟨_, rfl⟩
      rw [hy] at hcell hmem
      obtain ⟨cn, hcn⟩ : ∃ j : Nat, y = j := ⟨y.toNat, by omega⟩
      subst hcn
      have HS := Lib.hid (wholes_snoc (by rw [HN.out]; exact hlt) hy)
      have HW : Hid (∀ w, Calls Tryz.prog 52 #[.int .i64 cn] w fun e w' => ∃ p l k p' l' k', e = .returned (.agg #[.bool false, .slice p l k, .slice p' l' k']) ∧ Made w.heap.size (fun w => ratR w [.bool false, .slice p l k, .slice p' l' k'] (wholeQ cn)) w' ∧ Below w.heap.size w w') := Lib.hid (fun w => of_m cn (by omega) w)
      clear hy hmem
      go_wp2_with (first | (go_at_call 52; ((with_reducible refine (HW.out _).mono ?_); rintro e w1 ⟨p1, l1, k1, p2, l2, k2, rfl, hm1, hb1⟩; have hB1 := bel2' hbel hb1; have HM := Lib.hid (Lst.fresh_elt hL.out hm1 hbel.size); clear hm1)) | (at_builtin; go_must (refine append_lst erQ rfl rfl (hL.out.keep hb1) rfl rfl rfl (by simp [Value.oneCell']) (by omega) (by omega) hB1.size HM.out ?_); intro v' w4 hL4 hb4 hg4 hv4; have HL4 := Lib.hid hL4; clear hL4))
      go_roundw
      case rel => exact ⟨k + 1, _, _, by omega, by simp [hqs], by go_num, hB1.trans hb4, HL4, Lib.hid (by rw [hQ.out, HS.out])⟩
      case measure => simp [intOf] <;> omega
    · have hltz : ¬ (k : Int) < (len : Int) := by omega
      have HX : Hid (qs = wholesS l) := Lib.hid (by rw [hQ.out, List.take_of_length_le (by rw [HN.out]; omega)])
      go_wp2_with fail
      go_ret
      exact ⟨_, rfl, ⟨_, by rw [← HX.out]; exact hL.out⟩, hbel⟩

end Go.Proofs.YtbnhgmikegdppaaGreat

/- pile.Prefers. -/
namespace Go.Proofs.Nums

/-- The ballots that rank a, and b lower or not at all. -/
def prefS (gs : List Grp) (a b : Int) : Int := sumF (fun p => decide (placeN p a < placeN p b)) gs
theorem prefS_snoc (gs : List Grp) (g : Grp) (a b : Int) : prefS (gs ++ [g]) a b = prefS gs a b + (if placeN g.p a < placeN g.p b then g.n else 0) := by
  unfold prefS
  rw [sumF_snoc]
  congr 1
  by_cases h : placeN g.p a < placeN g.p b <;> simp [h]
theorem placeN_lt {l : List Int} {x : Int} (h : x ∈ l) : placeN l x < l.length := by
  induction l with
  | nil => simp at h
  | cons y t ih =>
    unfold placeN
    split
    · simp
    · next e =>
      rcases List.mem_cons.1 h with g | g
      · exact absurd g.symm e
      · have := ih g; simp; omega
/-- How it looks to the code: by the indices. -/
theorem pref_idx (l : List Int) (a b : Int) : ∃ x y : Int, indexZ l a = x ∧ indexZ l b = y ∧ ((0 ≤ x ∧ (y < 0 ∨ x < y)) ↔ placeN l a < placeN l b) := by
  refine ⟨_, _, rfl, rfl, ?_⟩
  unfold indexZ
  have h1 := placeN_le l a
  have h2 := placeN_le l b
  by_cases ha : a ∈ l
  · rw [if_pos ha]
    have ha' := placeN_lt ha
    by_cases hb : b ∈ l
    · rw [if_pos hb]; omega
    · rw [if_neg hb, placeN_none hb]; omega
  · rw [if_neg ha, placeN_none ha]
    constructor
    · intro h; omega
    · intro h; omega

end Go.Proofs.Nums
namespace Go.Proofs.YtbnhgmikegdppaaGreat
open Go.RowKit Go.Proofs.Kit Go.Proofs.Nums
end Go.Proofs.YtbnhgmikegdppaaGreat

/- pile.Marked. -/
namespace Go.Proofs.YtbnhgmikegdppaaGreat
open Go.RowKit Go.Proofs.Kit Go.Proofs.Nums
theorem marked_snoc (gs : List Grp) (g : Grp) : markedS (gs ++ [g]) = markedS gs + (if g.p.length = 0 then 0 else g.n) := by
  unfold markedS
  rw [sumF_snoc]
  congr 1
  cases h : g.p <;> simp
end Go.Proofs.YtbnhgmikegdppaaGreat

/- pile.Fit, for IRV. -/
namespace Go.Proofs.YtbnhgmikegdppaaGreat
open Go.RowKit Go.Proofs.Kit Go.Proofs.Nums

/-- pile.Fit by IRV. -/
noncomputable def fitS (n : Nat) (cm seats digits ties : Int) (gs : List Grp) (lots : List Int) : Int :=
  if cm = 1 then (if 1 ≤ n ∧ n ≤ 7 ∧ seats = 1 ∧ digits = 0 ∧ 1 ≤ ties ∧ ties ≤ 3 then (if pileS n gs = true then (if permB n lots = true then 0 else 13) else 8) else 4) else 5
/-- An api.Contest: its name, its candidates, and seven numbers. -/
def conV (nm : Value) (p : Option Addr) (n c : Nat) (cm seats ranks digits ties over skip : Int) : Value :=
  .agg #[nm, .slice p n c, .int .i64 cm, .int .i64 seats, .int .i64 ranks, .int .i64 digits, .int .i64 ties, .int .i64 over, .int .i64 skip]

set_option maxRecDepth 100000 in
set_option maxHeartbeats 8000000 in
theorem fit_c {nm : Value} {p : Option Addr} {n c : Nat} {cm seats ranks digits ties over skip : Int} {vg vl : Value} {gs : List Grp} {lots : List Int} {w : World} (_hn : n ≤ 1000) (hg : PileAt w vg gs) (hl : IntsAt w vl lots) :
    Calls Tryz.prog 22 #[.int .i64 1, conV nm p n c cm seats ranks digits ties over skip, vg, vl] w fun e w' => e = .returned (.int .i64 (fitS n cm seats digits ties gs lots)) ∧ Below w.heap.size w w' := by
  have hbA : Below w.heap.size w (w.alloc (.cells #[nm, .slice p n c, .int .i64 cm, .int .i64 seats, .int .i64 ranks, .int .i64 digits, .int .i64 ties, .int .i64 over, .int .i64 skip] 24)) := (Below.refl _ _).alloc (Nat.le_refl _) _
  unfold conV fitS
  by_cases h1 : cm = 1
  · subst h1
    rw [if_pos rfl]
    by_cases hall : 1 ≤ n ∧ n ≤ 7 ∧ seats = 1 ∧ digits = 0 ∧ 1 ≤ ties ∧ ties ≤ 3
    · obtain ⟨a1, a2, rfl, rfl, a5, a6⟩ := hall
      rw [if_pos ⟨a1, a2, rfl, rfl, a5, a6⟩]
      have d1 : decide ((n : Int) < 1) = false := decide_eq_false (by omega)
      have d2 : decide ((7 : Int) < n) = false := decide_eq_false (by omega)
      have d3 : decide (ties < 1) = false := decide_eq_false (by omega)
      have d4 : decide (3 < ties) = false := decide_eq_false (by omega)
      have PI : Hid (∀ w', Below w.heap.size w w' → Calls Tryz.prog 46 #[.int .i64 n, vg] w' fun e w'' => e = .returned (.bool (pileS n gs)) ∧ Below w'.heap.size w' w'') := Lib.hid (fun w' h => ispile_c (hg.keep h) n a2)
      have PE : Hid (∀ w', Below w.heap.size w w' → Calls Tryz.prog 47 #[vl, .int .i64 n] w' fun e w'' => e = .returned (.bool (permB n lots)) ∧ Below w'.heap.size w' w'') := Lib.hid (fun w' h => isperm_c (hl.keep h) n a2)
      obtain ⟨x, hx⟩ : ∃ x, pileS n gs = x := ⟨_, rfl⟩
      obtain ⟨y, hy⟩ : ∃ x, permB n lots = x := ⟨_, rfl⟩
      rw [hx] at PI ⊢
      rw [hy] at PE ⊢
      clear hx hy hg hl
      cases x <;> cases y <;>
      ( go_enter Tryz.func22, Tryz.ntmps22
        go_wp2_with (first
          | (go_at_call 46; ((with_reducible refine (PI.out _ hbA).mono ?_); rintro _ w1 ⟨rfl, hb1⟩; have hB1 := bel2' hbA hb1))
          | (go_at_call 47; ((with_reducible refine (PE.out _ hB1).mono ?_); rintro _ w2 ⟨rfl, hb2⟩; have hB2 := bel2' hB1 hb2)))
        go_ret
        first | exact ⟨rfl, hB2⟩ | exact ⟨rfl, hB1⟩)
    · rw [if_neg hall]
      clear hg hl
      by_cases a1 : (n : Int) < 1
      · have d1 : decide ((n : Int) < 1) = true := decide_eq_true a1
        go_enter Tryz.func22, Tryz.ntmps22
        go_wp2_with fail
        go_ret
        exact ⟨rfl, hbA⟩
      have d1 : decide ((n : Int) < 1) = false := decide_eq_false a1
      by_cases a2 : (7 : Int) < n
      · have d2 : decide ((7 : Int) < n) = true := decide_eq_true a2
        go_enter Tryz.func22, Tryz.ntmps22
        go_wp2_with fail
        go_ret
        exact ⟨rfl, hbA⟩
      have d2 : decide ((7 : Int) < n) = false := decide_eq_false a2
      by_cases a3 : seats < 1
      · have d3 : decide (seats < 1) = true := decide_eq_true a3
        go_enter Tryz.func22, Tryz.ntmps22
        go_wp2_with fail
        go_ret
        exact ⟨rfl, hbA⟩
      have d3 : decide (seats < 1) = false := decide_eq_false a3
      by_cases a4 : 5 < seats
      · have d4 : decide (5 < seats) = true := decide_eq_true a4
        go_enter Tryz.func22, Tryz.ntmps22
        go_wp2_with fail
        go_ret
        exact ⟨rfl, hbA⟩
      have d4 : decide (5 < seats) = false := decide_eq_false a4
      by_cases a5 : seats = 1
      · subst a5
        by_cases a6 : digits = 0
        · subst a6
          by_cases a7 : ties < 1
          · have d7 : decide (ties < 1) = true := decide_eq_true a7
            go_enter Tryz.func22, Tryz.ntmps22
            go_wp2_with fail
            go_ret
            exact ⟨rfl, hbA⟩
          have d7 : decide (ties < 1) = false := decide_eq_false a7
          have d8 : decide (3 < ties) = true := decide_eq_true (by omega)
          go_enter Tryz.func22, Tryz.ntmps22
          go_wp2_with fail
          go_ret
          exact ⟨rfl, hbA⟩
        · have e6 : (digits == 0) = false := by rw [beq_eq_false_iff_ne]; exact a6
          go_enter Tryz.func22, Tryz.ntmps22
          go_wp2_with fail
          go_ret
          exact ⟨rfl, hbA⟩
      · have e5 : (seats == 1) = false := by rw [beq_eq_false_iff_ne]; exact a5
        have e5' : (seats != 1) = true := by simpa using a5
        go_enter Tryz.func22, Tryz.ntmps22
        go_wp2_with fail
        go_ret
        exact ⟨rfl, hbA⟩
  · have d1 : (cm == 1) = false := by rw [beq_eq_false_iff_ne]; exact h1
    have d2 : (cm != 1) = true := by simpa using h1
    rw [if_neg h1]
    go_enter Tryz.func22, Tryz.ntmps22
    go_wp2_with fail
    go_ret
    exact ⟨rfl, hbA⟩

end Go.Proofs.YtbnhgmikegdppaaGreat

/- The state of a count while it runs; irv.newCount. -/
namespace Go.Proofs.YtbnhgmikegdppaaGreat
open Go.RowKit Go.Proofs.Kit Go.Proofs.Nums

/-- A row of flags of the call's own. -/
def OwnBool (w : World) (base g n : Nat) (o : List Bool) : Prop := o.length = n ∧ w.ownsRow base 4 1 (.slice (some ⟨g, 0, none⟩) n n) n (o.map Value.bool)
theorem OwnBool.read {w : World} {base g n : Nat} {o : List Bool} (h : OwnBool w base g n o) : BoolsAt w (.slice (some ⟨g, 0, none⟩) n n) o := RowAt.owned h.2
theorem OwnBool.cell {w : World} {base g n : Nat} {o : List Bool} (h : OwnBool w base g n o) {j : Nat} (hj : j < n) : w.cell? ⟨g, j, none⟩ = some (.bool (o.getD j false)) := by
  have hl : j < o.length := by rw [h.1]; exact hj
  rw [h.2.cellAt j (by omega), List.getElem?_map, List.getD_eq_getElem?_getD, List.getElem?_eq_getElem hl]; rfl
theorem OwnBool.free {w : World} {base g n : Nat} {o : List Bool} (h : OwnBool w base g n o) (j : Nat) : w.frozen? ⟨g, j, none⟩ = false := h.2.frozenAt j
theorem OwnBool.put {w : World} {base g n : Nat} {o : List Bool} (h : OwnBool w base g n o) (j : Nat) (x : Bool) :
    OwnBool (w.setCell ⟨g, j, none⟩ (.bool x)) base g n (o.set j x) ∧ Below base w (w.setCell ⟨g, j, none⟩ (.bool x)) := by
  have hs := h.2.stored j (.bool x)
  refine ⟨⟨by rw [List.length_set]; exact h.1, ?_⟩, ?_⟩
  · rw [List.map_set]; exact hs.1
  · exact (Below.refl base w).setCell (h.2.lt g rfl).1 _
theorem OwnBool.keep {w w' : World} {base g n : Nat} {o : List Bool} (h : OwnBool w base g n o) (hb : Below w.heap.size w w') : OwnBool w' base g n o := ⟨h.1, ownsRow_below h.2 hb⟩
theorem OwnBool.made {w : World} {base g n : Nat} (h : w.ownsRow base 4 1 (.slice (some ⟨g, 0, none⟩) n n) n (madeCells (Value.bool false).cells (n * 1)).toList) : OwnBool w base g n (List.replicate n false) := by
  refine ⟨List.length_replicate, ?_⟩
  rw [show (Value.bool false).cells = #[.bool false] from rfl, toList_madeCells_one, Nat.mul_one] at h
  rw [List.map_replicate]; exact h
theorem erB : ElemRow Tryz.prog 67 4 (.bool false) 1 1 := ⟨Tryz.underlying67, by kernel_rfl, rfl, by decide⟩

/-- The flags of newCount on the way: the first k are set. -/
def setTo (n k : Nat) : List Bool := List.replicate k true ++ List.replicate (n - k) false
theorem setTo_step {n k : Nat} (h : k < n) : (setTo n k).set k true = setTo n (k + 1) := by
  unfold setTo
  rw [List.set_append_right _ _ (by simp), List.length_replicate, Nat.sub_self, show n - k = (n - (k + 1)) + 1 by omega, List.replicate_succ, List.set_cons_zero, List.replicate_succ' (n := k), List.append_assoc]
  rfl
theorem setTo_all (n : Nat) : setTo n n = List.replicate n true := by
  unfold setTo
  rw [Nat.sub_self]
  simp
theorem setTo_none (n : Nat) : setTo n 0 = List.replicate n false := by
  unfold setTo
  simp

set_option maxRecDepth 100000 in
set_option maxHeartbeats 4000000 in
theorem newcount_c {nm : Value} {p pg pl : Option Addr} {n c ng cg nl cl : Nat} {cm seats ranks digits ties over skip : Int} {w : World} (h1 : 1 ≤ n) (h7 : n ≤ 7) :
    Calls Tryz.prog 23 #[conV nm p n c cm seats ranks digits ties over skip, .slice pg ng cg, .slice pl nl cl] w fun e w' => ∃ B g, e = .returned (.pointer (some ⟨B, 0, none⟩)) ∧
      Blk B (cntA nm (.slice p n c) (.int .i64 cm) (.int .i64 seats) (.int .i64 ranks) (.int .i64 digits) ties (.int .i64 over) (.int .i64 skip) (.slice pg ng cg) (.slice pl nl cl) (.slice (some ⟨g, 0, none⟩) n n) (.slice none 0 0)) w' ∧
      OwnBool w' g g n (List.replicate n true) ∧ w.heap.size ≤ g ∧ w.heap.size ≤ B ∧ B < w'.heap.size ∧ g < w'.heap.size ∧ B ≠ g ∧ Below w.heap.size w w' := by
  unfold conV cntA
  have hbA : Below w.heap.size w (w.alloc (.cells #[nm, .slice p n c, .int .i64 cm, .int .i64 seats, .int .i64 ranks, .int .i64 digits, .int .i64 ties, .int .i64 over, .int .i64 skip] 24)) := (Below.refl _ _).alloc (Nat.le_refl _) _
  have KX := Blk.new w #[nm, .slice p n c, .int .i64 cm, .int .i64 seats, .int .i64 ranks, .int .i64 digits, .int .i64 ties, .int .i64 over, .int .i64 skip] 24
  obtain ⟨X, hX⟩ : ∃ X, w.alloc (.cells #[nm, .slice p n c, .int .i64 cm, .int .i64 seats, .int .i64 ranks, .int .i64 digits, .int .i64 ties, .int .i64 over, .int .i64 skip] 24) = X := ⟨_, rfl⟩
  have hXs : X.heap.size = w.heap.size + 1 := by rw [← hX]; simp
  have HXS := Lib.hid hXs
  rw [hX] at hbA KX
  have KX := Lib.hid KX
  have x1 : X.cell? ⟨w.heap.size, 1, none⟩ = some (.slice p n c) := KX.out.2.1 1
  clear hXs
  go_enter Tryz.func23, Tryz.ntmps23
  go_wp2_with (at_make; go_must (refine make_any erB rfl rfl rfl rfl (by omega) (by omega) (by omega) ?_); intro w7 hown7 hb7)
  rw [show ((n : Int)).toNat = n by omega] at *
  have own7 := OwnBool.made hown7
  clear hown7
  obtain ⟨G, hG⟩ : ∃ G, X.heap.size = G := ⟨_, rfl⟩
  have HGe := Lib.hid hG
  have hGw : w.heap.size < G := by have := HXS.out; omega
  rw [hG] at own7 hb7 ⊢
  clear hG hX
  go_loopw [15] (fun iv wr => ∃ k : Nat, k ≤ n ∧ iv = .int .i64 k ∧ Below G X wr ∧ OwnBool wr G G n (setTo n k)) (fun iv _ => n - (intOf iv).toNat)
  case atStart => exact ⟨0, by omega, rfl, hb7, by rw [setTo_none]; exact own7⟩
  case round =>
    obtain ⟨k, hk, rfl, hbel, hO⟩ := hrel
    by_cases hlt : k < n
    · have hltz : (k : Int) < (n : Int) := by omega
      have hcell := hO.cell hlt
      have hfr := hO.free k
      have hput := hO.put k true
      rw [setTo_step hlt] at hput
      go_wp2_with fail
      go_roundw
      case rel => exact ⟨k + 1, by omega, by go_num, hbel.trans hput.2, hput.1⟩
      case measure => simp [intOf] <;> omega
    · obtain rfl : k = n := by omega
      rw [setTo_all] at hO
      have hbX : Below X.heap.size X wr := by rw [HGe.out]; exact hbel
      have KW := KX.out.keep hbX
      have hbw := bel2' hbA hbX
      have c0 : wr.cell? ⟨w.heap.size, 0, none⟩ = some nm := KW.2.1 0
      have c1 : wr.cell? ⟨w.heap.size, 1, none⟩ = some (.slice p k c) := KW.2.1 1
      have c2 : wr.cell? ⟨w.heap.size, 2, none⟩ = some (.int .i64 cm) := KW.2.1 2
      have c3 : wr.cell? ⟨w.heap.size, 3, none⟩ = some (.int .i64 seats) := KW.2.1 3
      have c4 : wr.cell? ⟨w.heap.size, 4, none⟩ = some (.int .i64 ranks) := KW.2.1 4
      have c5 : wr.cell? ⟨w.heap.size, 5, none⟩ = some (.int .i64 digits) := KW.2.1 5
      have c6 : wr.cell? ⟨w.heap.size, 6, none⟩ = some (.int .i64 ties) := KW.2.1 6
      have c7 : wr.cell? ⟨w.heap.size, 7, none⟩ = some (.int .i64 over) := KW.2.1 7
      have c8 : wr.cell? ⟨w.heap.size, 8, none⟩ = some (.int .i64 skip) := KW.2.1 8
      have hO := Lib.hid hO
      have KXh := Lib.hid KW
      have hGs := hbel.size
      have hgg := (hO.out.2.lt G rfl).2
      clear KW
      go_wp2_with fail
      go_ret
      exact ⟨wr.heap.size, G, rfl, Blk.new wr _ _, hO.out.keep ((Below.refl _ _).alloc (Nat.le_refl _) _), by omega, hbw.size, by simp, by simp; omega, by omega, hbw.alloc hbw.size _⟩

end Go.Proofs.YtbnhgmikegdppaaGreat

/- Two lists under construction side by side. Over any program. -/
namespace Go.Proofs.Kit
open Go.RowKit

theorem ownsRow_block {w w' : World} {base : Nat} {e : TypeId} {k n : Nat} {v : Value} {cs : List Value} (h : w.ownsRow base e k v n cs) (hw : ∀ g, v.ownBlock = some g → w'.heap[g]? = w.heap[g]?) : w'.ownsRow base e k v n cs := by
  refine ⟨h.1, ?_⟩
  rcases h.2 with hn | ⟨g, cap, cur, rfl, hg, hgg, rest⟩
  · exact .inl hn
  · exact .inr ⟨g, cap, cur, rfl, hg, by rw [hw g rfl]; exact hgg, rest⟩

theorem own_sl {w : World} {base : Nat} {e : TypeId} {size n : Nat} {v : Value} {cs : List Value} (h : w.ownsRow base e size v n cs) : ∃ p m c, v = .slice p m c := by
  rcases h.2 with ⟨rfl, _⟩ | ⟨g, cap, cur, rfl, _⟩
  · exact ⟨_, _, _, rfl⟩
  · exact ⟨_, _, _, rfl⟩

/-- A list under construction beside another one, whose own block is o: its elements are read off blocks from E on, none of them the own block of either. -/
structure Lst2 {α : Type} (R : World → List Value → α → Prop) (E : Nat) (o : Nat → Prop) (e : TypeId) (k : Nat) (v : Value) (w : World) (l : List α) (css : List (List Value)) : Prop where
  own : w.ownsRow E e k v l.length css.flatten
  len : css.length = l.length
  siz : ∀ c ∈ css, c.length = k
  apart : ∀ g, v.ownBlock = some g → ¬ o g
  elt : ∀ (i : Nat) (c : List Value) (x : α), css[i]? = some c → l[i]? = some x → On (fun b => E ≤ b ∧ b < w.heap.size ∧ v.ownBlock ≠ some b ∧ ¬ o b) (fun w => R w c x) w

/-- The own block of a list is the same as before, or new. -/
def Grew (w : World) (o o' : Option Nat) : Prop := o' = o ∨ ∃ g, o' = some g ∧ w.heap.size ≤ g
theorem Grew.not {w : World} {o o' : Option Nat} (h : Grew w o o') {b : Nat} (hb : b < w.heap.size) (hn : o ≠ some b) : o' ≠ some b := by
  rcases h with h | ⟨g, h, hg⟩
  · rw [h]; exact hn
  · rw [h]; intro e; have := Option.some.inj e; omega
theorem Grew.mono {w w' : World} {o o' : Option Nat} (h : Grew w' o o') (hs : w.heap.size ≤ w'.heap.size) : Grew w o o' := by
  rcases h with h | ⟨g, h, hg⟩
  · exact .inl h
  · exact .inr ⟨g, h, Nat.le_trans hs hg⟩

section
variable {α : Type} {R : World → List Value → α → Prop} {E k : Nat} {o o' : Nat → Prop} {e : TypeId} {w w' : World} {v v' : Value} {l : List α} {css : List (List Value)}
theorem Lst2.nil (w : World) : Lst2 R E o e k (.slice none 0 0) w ([] : List α) [] :=
  ⟨World.ownsRow_nil _ _ _ _, rfl, fun c hc => by simp at hc, fun g hg => by simp [Value.ownBlock] at hg, fun i c x hi => by simp at hi⟩
theorem Lst2.lst (h : Lst2 R E o e k v w l css) : Lst R E E e k v w l css :=
  ⟨h.own, h.len, h.siz, fun i c x hi hx => On.mono (h.elt i c x hi hx) fun _ hb => ⟨hb.1, hb.2.1, hb.2.2.1⟩⟩
theorem Lst2.lt (h : Lst2 R E o e k v w l css) : ∀ g, v.ownBlock = some g → E ≤ g ∧ g < w.heap.size := fun g hg => h.own.lt g hg
/-- Blocks from E on stay as they were, but that of the other list. -/
theorem Lst2.step (h : Lst2 R E o e k v w l css) (hs : w.heap.size ≤ w'.heap.size) (hw : ∀ b, E ≤ b → b < w.heap.size → ¬ o b → w'.heap[b]? = w.heap[b]?) (ho : ∀ b, b < w.heap.size → ¬ o b → ¬ o' b) : Lst2 R E o' e k v w' l css := by
  refine ⟨ownsRow_block h.own fun g hg => hw g (h.lt g hg).1 (h.lt g hg).2 (h.apart g hg), h.len, h.siz, fun g hg => ho g (h.lt g hg).2 (h.apart g hg), fun i c x hi hx => ?_⟩
  exact On.mono (On.step (h.elt i c x hi hx) fun b hb => hw b hb.1 hb.2.1 hb.2.2.2) fun b hb => ⟨hb.1, Nat.lt_of_lt_of_le hb.2.1 hs, hb.2.2.1, ho b hb.2.1 hb.2.2.2⟩
theorem Lst2.keep (h : Lst2 R E o e k v w l css) (hb : Below w.heap.size w w') : Lst2 R E o e k v w' l css :=
  h.step hb.size (fun b _ hlt _ => hb.block b hlt) (fun _ _ g => g)
/-- A store below E. -/
theorem Lst2.put (h : Lst2 R E o e k v w l css) {b j : Nat} (hb : b < E) (u : Value) : Lst2 R E o e k v (w.setCell ⟨b, j, none⟩ u) l css :=
  h.step (by simp) (fun b' hE _ _ => Below.heap_setCell _ _ _ _ (by simp only; omega)) (fun _ _ g => g)
theorem Lst2.push (h : Lst2 R E o e k v w l css) {c : List Value} {x : α} (hc : c.length = k) (hx : On (fun b => E ≤ b ∧ b < w.heap.size ∧ v.ownBlock ≠ some b ∧ ¬ o b) (fun w => R w c x) w)
    (hown : w'.ownsRow E e k v' (l.length + 1) (css.flatten ++ c)) (hg : w.grownBy w' v.ownBlock) (hv : Grew w v.ownBlock v'.ownBlock) (ho : ∀ b, o b → b < w.heap.size) :
    Lst2 R E o e k v' w' (l ++ [x]) (css ++ [c]) := by
  have hF : ∀ {S : World → Prop}, On (fun b => E ≤ b ∧ b < w.heap.size ∧ v.ownBlock ≠ some b ∧ ¬ o b) S w → On (fun b => E ≤ b ∧ b < w'.heap.size ∧ v'.ownBlock ≠ some b ∧ ¬ o b) S w' := fun hS =>
    On.mono (On.step hS fun b hb => hg.block b hb.2.1 (fun e => hb.2.2.1 e.symm)) fun b hb => ⟨hb.1, Nat.lt_of_lt_of_le hb.2.1 hg.size, hv.not hb.2.1 hb.2.2.1, hb.2.2.2⟩
  refine ⟨?_, by simp [h.len], fun c' hc' => ?_, fun g hg' e => ?_, fun i c' x' hi hx' => ?_⟩
  · rw [List.length_append, List.length_singleton]
    simpa using hown
  · rcases List.mem_append.1 hc' with hm | hm
    · exact h.siz c' hm
    · rw [List.mem_singleton.1 hm]; exact hc
  · rcases hv with hv | ⟨g2, hv, hg2⟩
    · exact h.apart g (hv.symm.trans hg') e
    · rw [hv] at hg'
      have := Option.some.inj hg'
      have := ho g e
      omega
  · by_cases hlt : i < css.length
    · rw [List.getElem?_append_left hlt] at hi
      rw [List.getElem?_append_left (by have := h.len; omega)] at hx'
      exact hF (h.elt i c' x' hi hx')
    · have hi2 := (List.getElem?_eq_some_iff.1 hi).1
      rw [List.length_append, List.length_singleton] at hi2
      have hii : i = css.length := by omega
      subst hii
      rw [List.getElem?_append_right (Nat.le_refl _), Nat.sub_self] at hi
      rw [h.len, List.getElem?_append_right (Nat.le_refl _), Nat.sub_self] at hx'
      have e1 : c = c' := by simpa using hi
      have e2 : x = x' := by simpa using hx'
      subst e1; subst e2
      exact hF hx
theorem Lst2.slice (h : Lst2 R E o e k v w l css) : SliceOf R k w v l := h.lst.slice
/-- An element newer than the two lists. -/
theorem Lst2.fresh {w1 : World} {S : World → Prop} (h : Lst2 R E o e k v w l css) (hm : Made w.heap.size S w1) (hE : E ≤ w.heap.size) (ho : ∀ b, o b → b < w.heap.size) : On (fun b => E ≤ b ∧ b < w1.heap.size ∧ v.ownBlock ≠ some b ∧ ¬ o b) S w1 :=
  On.mono hm fun b hb => ⟨Nat.le_trans hE hb.1, hb.2, fun e => by have := (h.lt b e).2; omega, fun e => by have := ho b e; omega⟩
end

section
variable {P : Program} {t e : TypeId} {z : Value} {k bytes : Nat} {α : Type} {R : World → List Value → α → Prop} {E : Nat} {o2 : Nat → Prop} {v : Value} {l : List α} {css : List (List Value)}
/-- append(s, x), x one element just laid in a new block. -/
theorem append_lst2 (E0 : ElemRow P t e z k bytes)
    {ops : Array Oper} {rest : List Oper} {o : Oper} {a : Act} {Q : Exit → Act → World → Prop} (hgd : o.guard = none) {s x : Operand}
    (ho : o.op = .call { callee := .builtin .append, args := #[s, x], argTypes := #[t, t] })
    {w : World} {cs : Array Value} {e' : TypeId} {fz : Nat × Nat} (hL : Lst2 R E o2 e k v w l css)
    (hs : a.eval s = v) (hx : a.eval x = .slice (some ⟨w.heap.size, 0, none⟩) 1 1)
    (hl : cs.size = k) (h1 : ∀ u ∈ cs.toList, u.oneCell' = true) (hn : (l.length + 1) * bytes ≤ 140737488355328) (hn' : l.length + 1 ≤ 9223372036854775807) (hE : E ≤ w.heap.size) (ho2 : ∀ b, o2 b → b < w.heap.size)
    {y : α} (hy : On (fun b => E ≤ b ∧ b < w.heap.size ∧ v.ownBlock ≠ some b ∧ ¬ o2 b) (fun w => R w cs.toList y) w)
    (h : ∀ v' w', Lst2 R E o2 e k v' w' (l ++ [y]) (css ++ [cs.toList]) → Below E w w' → w.grownBy w' v.ownBlock → Grew w v.ownBlock v'.ownBlock → wpList P ops Q rest (a.put o.dst v') w') :
    wpList P ops Q (o :: rest) a (w.alloc (.cells cs e' fz)) := by
  refine append_fresh E0 hgd ho hL.own hs hx hl h1 hn hn' hE fun v' w' h2 h3 h4 h5 h6 => ?_
  exact h v' w' (hL.push (by rw [Array.length_toList]; exact hl) hy h2 h3 h6 ho2) h4 h3 h6
/-- The same at a step of a region that draws its order. -/
theorem step_append_lst2 (E0 : ElemRow P t e z k bytes)
    {ops : Array Oper} {o : Oper} {a : Act} {K : Act → World → Prop} {Q : Exit → Act → World → Prop} {X0 : Prop} (hgd : o.guard = none) {s x : Operand}
    (ho : o.op = .call { callee := .builtin .append, args := #[s, x], argTypes := #[t, t] })
    {w : World} {ad : Addr} {cap : Nat} {c : List Value} (hL : Lst2 R E o2 e k v w l css)
    (hs : a.eval s = v) (hx : a.eval x = .slice (some ad) 1 cap) (hc : ∀ j u, c[j]? = some u → w.cell? (ad.add j) = some u)
    (hl : c.length = k) (h1 : ∀ u ∈ c, u.oneCell' = true) (hn : (l.length + 1) * bytes ≤ 140737488355328) (hn' : l.length + 1 ≤ 9223372036854775807) (hE : E ≤ w.heap.size) (ho2 : ∀ b, o2 b → b < w.heap.size)
    {y : α} (hy : On (fun b => E ≤ b ∧ b < w.heap.size ∧ v.ownBlock ≠ some b ∧ ¬ o2 b) (fun w => R w c y) w)
    (h : ∀ v' w', Lst2 R E o2 e k v' w' (l ++ [y]) (css ++ [c]) → Below E w w' → w.grownBy w' v.ownBlock → Grew w v.ownBlock v'.ownBlock → K (a.put o.dst v') w') :
    if Region.wanted o (yielded ops a.tmps) = true then Oper.wp P o a w K Q else X0 := by
  obtain ⟨i, hi, hz0, hz1, hz2⟩ := info_parts E0.hi
  refine step_append_lies w hgd s x t ho E e i z k bytes E0.ht hi hz0 hz1 hz2 E0.hzs E0.hsz v l.length css.flatten hs hL.own ad 1 cap c hx (by rw [hl, Nat.one_mul]) hc h1 (by omega) (by unfold maxLen; omega) hn hE _ rfl fun g cp w' h2 h3 h4 h5 => ?_
  have hv : Grew w v.ownBlock (Value.slice (some ⟨g, 0, none⟩) (l.length + 1) cp).ownBlock := by
    rcases h4 with h4 | h4
    · exact .inl (by rw [h4]; rfl)
    · exact .inr ⟨g, rfl, by omega⟩
  exact h _ w' (hL.push hl hy h2 h3 hv ho2) ((Below.refl E w).grown h3 hE fun g' hg' => (hL.lt g' hg').1) h3 hv
end

end Go.Proofs.Kit

/- The state of a count in memory; (*count).exclude: the loop. -/
namespace Go.Proofs.Nums

theorem ltW_swo (gs : List Grp) (rem : List Bool) : Swo (ltW gs rem) := by
  unfold ltW
  refine ⟨fun a => by simp, fun a b h => ?_, fun a b c h1 h2 => ?_⟩
  · rw [decide_eq_true_iff] at h; rw [decide_eq_false_iff_not]; omega
  · rw [decide_eq_false_iff_not] at h1 h2 ⊢; omega
theorem low_step {gs : List Grp} {rem : List Bool} {l : List Int} {k : Nat} {y : Int} (h : k < l.length) (hy : l.getD k 0 = y) : extA (ltW gs rem) (l.take (k + 1)) = exStep (ltW gs rem) (extA (ltW gs rem) (l.take k)) y := by
  rw [take_snoc_i h, hy, extA_snoc (ltW_swo gs rem)]

end Go.Proofs.Nums
namespace Go.Proofs.YtbnhgmikegdppaaGreat
open Go.RowKit Go.Proofs.Kit Go.Proofs.Nums

theorem blk_put {b : Nat} {cs : Array Value} {w : World} (h : Blk b cs w) {o : Nat} (ho : o < cs.size) (v : Value) : Blk b (cs.set o v ho) (w.setCell ⟨b, o, none⟩ v) := by
  refine ⟨by simpa [World.size_setCell] using h.1, fun p => ?_, fun p => ?_⟩
  · by_cases hp : o = p
    · subst hp
      rw [cell_same (u := cs[o]) (by rw [h.2.1]; exact Array.getElem?_eq_getElem ho)]
      simp
    · rw [cell_other hp, h.2.1, Array.getElem?_set_ne ho hp]
  · rw [World.frozen?_setCell]; exact h.2.2 p
theorem blk_other {b b' : Nat} {cs : Array Value} {w : World} (h : Blk b cs w) (hne : b ≠ b') (o : Nat) (v : Value) : Blk b cs (w.setCell ⟨b', o, none⟩ v) :=
  h.off (Below.heap_setCell w ⟨b', o, none⟩ v b hne) (by rw [World.size_setCell]; exact Nat.le_refl _)
theorem OwnBool.other {w : World} {base g n : Nat} {l : List Bool} (h : OwnBool w base g n l) {b : Nat} (hne : g ≠ b) (o : Nat) (v : Value) : OwnBool (w.setCell ⟨b, o, none⟩ v) base g n l :=
  ⟨h.1, ownsRow_block h.2 fun g' hg' => by
    have e : g = g' := by simpa [Value.ownBlock] using hg'
    subst e
    exact Below.heap_setCell w ⟨b, o, none⟩ v g hne⟩

/-- A contest in cells. -/
structure ConP where
  nm : Value
  p : Option Addr
  n : Nat
  c : Nat
  cm : Int
  seats : Int
  ranks : Int
  digits : Int
  ties : Int
  over : Int
  skip : Int
def cntC (C : ConP) (vg vl vr ve : Value) : Array Value := cntA C.nm (.slice C.p C.n C.c) (.int .i64 C.cm) (.int .i64 C.seats) (.int .i64 C.ranks) (.int .i64 C.digits) C.ties (.int .i64 C.over) (.int .i64 C.skip) vg vl vr ve
/-- A count: block B holds its cells, block g the flags of those that remain. -/
structure CntAt (w : World) (B g : Nat) (C : ConP) (vg vl ve : Value) (rem : List Bool) : Prop where
  blk : Blk B (cntC C vg vl (.slice (some ⟨g, 0, none⟩) C.n C.n) ve) w
  row : OwnBool w g g C.n rem
  ne : B ≠ g
section
variable {w w' : World} {B g : Nat} {C : ConP} {vg vl ve : Value} {rem : List Bool}
theorem CntAt.keep (h : CntAt w B g C vg vl ve rem) (hb : Below w.heap.size w w') : CntAt w' B g C vg vl ve rem := ⟨h.blk.keep hb, h.row.keep hb, h.ne⟩
theorem CntAt.flag (h : CntAt w B g C vg vl ve rem) (j : Nat) (x : Bool) : CntAt (w.setCell ⟨g, j, none⟩ (.bool x)) B g C vg vl ve (rem.set j x) :=
  ⟨blk_other h.blk h.ne j _, (h.row.put j x).1, h.ne⟩
theorem CntAt.ear (h : CntAt w B g C vg vl ve rem) (ve' : Value) : CntAt (w.setCell ⟨B, 12, none⟩ ve') B g C vg vl ve' rem :=
  ⟨blk_put h.blk (o := 12) (by simp [cntC, cntA]) ve', h.row.other (Ne.symm h.ne) _ _, h.ne⟩
/-- Blocks other than B and g may change. -/
theorem CntAt.off (h : CntAt w B g C vg vl ve rem) (hs : w.heap.size ≤ w'.heap.size) (h1 : w'.heap[B]? = w.heap[B]?) (h2 : w'.heap[g]? = w.heap[g]?) : CntAt w' B g C vg vl ve rem :=
  ⟨h.blk.off h1 hs, ⟨h.row.1, ownsRow_block h.row.2 fun g' hg' => by
    have e : g = g' := by simpa [Value.ownBlock] using hg'
    subst e
    exact h2⟩, h.ne⟩
theorem CntAt.flags (h : CntAt w B g C vg vl ve rem) : BoolsAt w (.slice (some ⟨g, 0, none⟩) C.n C.n) rem := h.row.read
theorem CntAt.len (h : CntAt w B g C vg vl ve rem) : rem.length = C.n := h.row.1
theorem CntAt.lt (h : CntAt w B g C vg vl ve rem) : B < w.heap.size ∧ g < w.heap.size := ⟨h.blk.1, (h.row.2.lt g rfl).2⟩
theorem CntAt.cells (h : CntAt w B g C vg vl ve rem) : w.cell? ⟨B, 6, none⟩ = some (.int .i64 C.ties) ∧ w.cell? ⟨B, 10, none⟩ = some vl ∧ w.cell? ⟨B, 11, none⟩ = some (.slice (some ⟨g, 0, none⟩) C.n C.n) ∧ w.cell? ⟨B, 12, none⟩ = some ve ∧ w.frozen? ⟨B, 12, none⟩ = false :=
  ⟨h.blk.2.1 6, h.blk.2.1 10, h.blk.2.1 11, h.blk.2.1 12, h.blk.2.2 12⟩
end
theorem left_n {w : World} {B g : Nat} {C : ConP} {vg vl ve : Value} {rem : List Bool} (h : CntAt w B g C vg vl ve rem) (h7 : C.n ≤ 7) :
    Calls Tryz.prog 26 #[.pointer (some ⟨B, 0, none⟩)] w fun e w' => ∃ v', e = .returned v' ∧ IntsAt w' v' (aliveS rem) ∧ Fresh w.heap.size v' ∧ Below w.heap.size w w' :=
  left_c h.blk h.flags (by rw [h.len]; exact h7)

end Go.Proofs.YtbnhgmikegdppaaGreat
