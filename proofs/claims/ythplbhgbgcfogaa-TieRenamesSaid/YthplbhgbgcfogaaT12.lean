/- The choice by lot: the order by priority, MaxFunc, MinFunc; Clone. -/
import Derived.Test.YthplbhgbgcfogaaT11
namespace Go.Proofs.Nums

theorem placeN_get {l : List Int} {x : Int} (h : x ∈ l) : l.getD (placeN l x) 0 = x := by
  induction l with
  | nil => simp at h
  | cons y l ih =>
    unfold placeN
    by_cases e : y = x
    · rw [if_pos e]; simpa using e
    · rw [if_neg e]
      have := ih (by rcases List.mem_cons.1 h with g | g; exact absurd g.symm e; exact g)
      simpa using this
theorem placeN_inj {l : List Int} {x y : Int} (hx : x ∈ l) (hy : y ∈ l) (h : placeN l x = placeN l y) : x = y := by
  rw [← placeN_get hx, h, placeN_get hy]
theorem pick_snoc {lots : List Int} {least : Bool} {p : List Int} (hp : p ≠ []) (x : Int) : pickS lots least (p ++ [x]) = pickStep lots least (pickS lots least p) x := by
  cases p with
  | nil => exact absurd rfl hp
  | cons a t => simp [pickS, List.foldl_append]
theorem pick_mem0 {lots : List Int} {least : Bool} : ∀ (t : List Int) (a : Int), t.foldl (pickStep lots least) a ∈ a :: t := by
  intro t
  induction t with
  | nil => intro a; simp
  | cons b t ih =>
    intro a
    rw [List.foldl_cons]
    have := ih (pickStep lots least a b)
    rcases List.mem_cons.1 this with g | g
    · rw [g]; unfold pickStep; split <;> simp
    · simp [g]
theorem pick_mem {lots : List Int} {least : Bool} {p : List Int} (hp : p ≠ []) : pickS lots least p ∈ p := by
  cases p with
  | nil => exact absurd rfl hp
  | cons a t => exact pick_mem0 t a
theorem pick_take {lots : List Int} {least : Bool} {l : List Int} {k : Nat} {x : Int} (hk : 0 < k) (h : k < l.length) (hx : l.getD k 0 = x) : pickS lots least (l.take (k + 1)) = pickStep lots least (pickS lots least (l.take k)) x := by
  rw [take_snoc_i h, hx, pick_snoc]
  intro g
  have := congrArg List.length g
  rw [List.length_take, List.length_nil] at this
  omega
theorem take_ne {l : List Int} {k : Nat} (hk : 0 < k) (h : k ≤ l.length) : l.take k ≠ [] := by
  intro g
  have := congrArg List.length g
  rw [List.length_take, List.length_nil] at this
  omega
/-- What the step sees: the best so far and the next differ in their places. -/
theorem pick_apart {lots : List Int} {least : Bool} {l : List Int} (hn : l.Nodup) (hm : ∀ x ∈ l, x ∈ lots) {k : Nat} {x : Int} (hk : 0 < k) (h : k < l.length) (hx : l.getD k 0 = x) :
    pickS lots least (l.take k) ∈ lots ∧ x ∈ lots ∧ placeN lots (pickS lots least (l.take k)) ≠ placeN lots x := by
  have h1 := pick_mem (lots := lots) (least := least) (take_ne hk (Nat.le_of_lt h))
  have h2 := mem_getD h hx
  refine ⟨hm _ (List.mem_of_mem_take h1), hm _ h2, fun e => ?_⟩
  have e2 := placeN_inj (hm _ (List.mem_of_mem_take h1)) (hm _ h2) e
  have := nodup_take hn (k + 1)
  rw [take_snoc_i h, hx, List.nodup_append] at this
  exact this.2.2 _ h1 x (by simp) e2

end Go.Proofs.Nums
namespace Go.Proofs.Ythplbhgbgcfogaa
open Go.RowKit Go.Proofs.Kit Go.Proofs.Nums

theorem indexZ_mem {l : List Int} {x : Int} (h : x ∈ l) : indexZ l x = (placeN l x : Int) := by unfold indexZ; rw [if_pos h]

set_option maxHeartbeats 2000000 in
theorem prio_c {vl : Value} {lots : List Int} {w : World} {K : Nat} (hK : w.cell? ⟨K, 0, none⟩ = some vl) (hl : IntsAt w vl lots) {x y : Int} (hx : x ∈ lots) (hy : y ∈ lots) (hll : lots.length ≤ 1000) :
    Calls Try.prog 28 #[.int .i64 x, .int .i64 y, .pointer (some ⟨K, 0, none⟩)] w fun e w' => e = .returned (.int .i64 ((placeN lots x : Int) - (placeN lots y : Int))) ∧ Below w.heap.size w w' := by
  have IX : Hid (∀ q, Calls Try.prog 29 #[vl, .int .i64 x] (w.drewN q) fun e w' => e = .returned (.int .i64 (placeN lots x : Int)) ∧ w' = w.drewN q) := Lib.hid (fun q => (index_c (hl.keep (below_drewN (Below.refl _ _) q)) x).mono fun _ _ ⟨h1, h2⟩ => ⟨by rw [h1, indexZ_mem hx], h2.symm⟩)
  have IY : Hid (∀ q, Calls Try.prog 29 #[vl, .int .i64 y] (w.drewN q) fun e w' => e = .returned (.int .i64 (placeN lots y : Int)) ∧ w' = w.drewN q) := Lib.hid (fun q => (index_c (hl.keep (below_drewN (Below.refl _ _) q)) y).mono fun _ _ ⟨h1, h2⟩ => ⟨by rw [h1, indexZ_mem hy], h2.symm⟩)
  have p1 := placeN_le lots x
  have p2 := placeN_le lots y
  obtain ⟨p, c, rfl⟩ := hl.shape
  obtain ⟨a, ha⟩ : ∃ a, placeN lots x = a := ⟨_, rfl⟩
  obtain ⟨b, hb⟩ : ∃ a, placeN lots y = a := ⟨_, rfl⟩
  rw [ha] at IX p1 ⊢
  rw [hb] at IY p2 ⊢
  obtain ⟨d, hd⟩ : ∃ d : Int, (a : Int) - (b : Int) = d := ⟨_, rfl⟩
  rw [hd]
  have hwd : IntKind.i64.wrap d = d := w64 (by omega) (by omega)
  clear hl hx hy hll ha hb p1 p2
  go_enter Try.func28, Try.ntmps28
  go_wp2_with fail
  go_quiet ((go_at_call 29; first | with_reducible exact Calls.quiet_of_same (IX.out _) | with_reducible exact Calls.quiet_of_same (IY.out _)))
  go_wp2_with fail
  go_ret
  exact ⟨ret_ii (by first | rfl | omega | (rw [hwd])), below_drewN (Below.refl _ _) _⟩

set_option maxRecDepth 100000 in
set_option maxHeartbeats 2000000 in
theorem maxfunc_c {v vl : Value} {l lots : List Int} {w : World} {K : Nat} (hv : IntsAt w v l) (hK : w.cell? ⟨K, 0, none⟩ = some vl) (hl : IntsAt w vl lots) (hll : lots.length ≤ 1000) (hln : l.length ≤ 1000) (hne : l ≠ []) (hnd : l.Nodup) (hm : ∀ x ∈ l, x ∈ lots) :
    Calls Try.prog 30 #[v, .func (.func 28) #[] #[.pointer (some ⟨K, 0, none⟩)]] w fun e w' => e = .returned (.int .i64 (pickS lots true l)) ∧ Below w.heap.size w w' := by
  have PR : Hid (∀ w', Below w.heap.size w w' → ∀ x y, x ∈ lots → y ∈ lots → Calls Try.prog 28 #[.int .i64 x, .int .i64 y, .pointer (some ⟨K, 0, none⟩)] w' fun e w'' => e = .returned (.int .i64 ((placeN lots x : Int) - (placeN lots y : Int))) ∧ Below w'.heap.size w' w'') := Lib.hid (fun w' hb x y hx hy => prio_c (cell_keep hb hK) (hl.keep hb) hx hy hll)
  have AP := Lib.hid (fun k x (hk : 0 < k) (h : k < l.length) (hx : l.getD k 0 = x) => pick_apart (least := true) hnd hm hk h hx)
  have ST := Lib.hid (fun k x (hk : 0 < k) (h : k < l.length) (hx : l.getD k 0 = x) => pick_take (lots := lots) (least := true) hk h hx)
  have H := Lib.hid hv
  have hlen0 : 0 < l.length := by
    cases l with
    | nil => exact absurd rfl hne
    | cons a t => simp
  obtain ⟨p, c, rfl⟩ := hv.shape
  obtain ⟨len, hlen⟩ : ∃ n, l.length = n := ⟨_, rfl⟩
  have HN := Lib.hid hlen
  have H0 : Hid (l.getD 0 0 = pickS lots true (l.take 1)) := Lib.hid (by
    cases l with
    | nil => exact absurd rfl hne
    | cons a t => simp [pickS])
  rw [hlen] at hln H hlen0 AP ST ⊢
  obtain ⟨bb, off, hp0, hc1, hc2, hcell⟩ := H.out.cellAt 0 (by rw [HN.out]; exact hlen0)
  subst hp0
  obtain ⟨m0, hm0⟩ : ∃ m, l.getD 0 0 = m := ⟨_, rfl⟩
  rw [hm0] at hcell H0
  have hcell : w.cell? ⟨bb, off, none⟩ = some (.int .i64 m0) := hcell
  have hlz : ¬ (len : Int) < 1 := by omega
  have hlz0 : (0 : Int) < (len : Int) := by omega
  clear hv hK hl hne hnd hm hlen hm0
  go_enter Try.func30, Try.ntmps30
  go_wp2_with fail
  go_loopw [5, 6] (fun mv iv wr => ∃ k : Nat, ∃ m : Int, 1 ≤ k ∧ k ≤ len ∧ iv = .int .i64 k ∧ mv = .int .i64 m ∧ Below w.heap.size w wr ∧ Hid (m = pickS lots true (l.take k))) (fun _ iv _ => len - (intOf iv).toNat)
  case atStart => exact ⟨1, m0, by omega, by omega, rfl, rfl, Below.refl _ _, H0⟩
  case round =>
    obtain ⟨k, m, hk1, hk, rfl, rfl, hbel, hP⟩ := hrel
    by_cases hlt : k < len
    · have hltz : (k : Int) < (len : Int) := by omega
      obtain ⟨bb2, off2, hp2, _, _, hcellk⟩ := (H.out.keep hbel).cellAt k (by rw [HN.out]; exact hlt)
      simp only [Option.some.injEq, Addr.mk.injEq, and_true] at hp2
      obtain ⟨rfl, rfl⟩ := hp2
      obtain ⟨x, hx⟩ : ∃ y, l.getD k 0 = y := ⟨_, rfl⟩
      rw [hx] at hcellk
      obtain ⟨ap1, ap2, ap3⟩ := AP.out k x hk1 hlt hx
      rw [← hP.out] at ap1 ap3
      have hst := ST.out k x hk1 hlt hx
      rw [← hP.out] at hst
      unfold pickStep at hst
      have C := PR.out wr hbel x m ap2 ap1
      obtain ⟨a, ha⟩ : ∃ a, placeN lots x = a := ⟨_, rfl⟩
      obtain ⟨b, hb⟩ : ∃ a, placeN lots m = a := ⟨_, rfl⟩
      rw [ha, hb] at C
      rw [ha, hb] at hst
      rw [ha, hb] at ap3
      obtain ⟨d, hd⟩ : ∃ d : Int, (a : Int) - (b : Int) = d := ⟨_, rfl⟩
      rw [hd] at C
      have C := Lib.hid C
      by_cases hab : b < a
      · have hd0 : 0 < d := by omega
        have HX : Hid (x = pickS lots true (l.take (k + 1))) := Lib.hid (by rw [hst, decide_eq_true hab]; rfl)
        clear hst ap1 ap2 ap3 ha hb hd hx
        go_wp2_with (go_at_call 28; ((with_reducible refine C.out.mono ?_); rintro e w1 ⟨rfl, hb1⟩; have hB1 := bel2' hbel hb1; have hck := cell_keep hb1 hcellk))
        go_roundw
        case rel => exact ⟨k + 1, x, by omega, by omega, by go_num, rfl, hB1, HX⟩
        case measure => simp [intOf] <;> omega
      · have hd0 : d < 0 := by omega
        have HX : Hid (m = pickS lots true (l.take (k + 1))) := Lib.hid (by rw [hst, decide_eq_false hab]; rfl)
        clear hst ap1 ap2 ap3 ha hb hd hx
        go_wp2_with (go_at_call 28; ((with_reducible refine C.out.mono ?_); rintro e w1 ⟨rfl, hb1⟩; have hB1 := bel2' hbel hb1; have hck := cell_keep hb1 hcellk))
        go_roundw
        case rel => exact ⟨k + 1, m, by omega, by omega, by go_num, rfl, hB1, HX⟩
        case measure => simp [intOf] <;> omega
    · have hltz : ¬ (k : Int) < (len : Int) := by omega
      have HX : Hid (m = pickS lots true l) := Lib.hid (by rw [hP.out, List.take_of_length_le (by rw [HN.out]; omega)])
      go_wp2_with fail
      go_ret
      exact ⟨ret_ii HX.out, hbel⟩

set_option maxRecDepth 100000 in
set_option maxHeartbeats 2000000 in
theorem minfunc_c {v vl : Value} {l lots : List Int} {w : World} {K : Nat} (hv : IntsAt w v l) (hK : w.cell? ⟨K, 0, none⟩ = some vl) (hl : IntsAt w vl lots) (hll : lots.length ≤ 1000) (hln : l.length ≤ 1000) (hne : l ≠ []) (hnd : l.Nodup) (hm : ∀ x ∈ l, x ∈ lots) :
    Calls Try.prog 31 #[v, .func (.func 28) #[] #[.pointer (some ⟨K, 0, none⟩)]] w fun e w' => e = .returned (.int .i64 (pickS lots false l)) ∧ Below w.heap.size w w' := by
  have PR : Hid (∀ w', Below w.heap.size w w' → ∀ x y, x ∈ lots → y ∈ lots → Calls Try.prog 28 #[.int .i64 x, .int .i64 y, .pointer (some ⟨K, 0, none⟩)] w' fun e w'' => e = .returned (.int .i64 ((placeN lots x : Int) - (placeN lots y : Int))) ∧ Below w'.heap.size w' w'') := Lib.hid (fun w' hb x y hx hy => prio_c (cell_keep hb hK) (hl.keep hb) hx hy hll)
  have AP := Lib.hid (fun k x (hk : 0 < k) (h : k < l.length) (hx : l.getD k 0 = x) => pick_apart (least := false) hnd hm hk h hx)
  have ST := Lib.hid (fun k x (hk : 0 < k) (h : k < l.length) (hx : l.getD k 0 = x) => pick_take (lots := lots) (least := false) hk h hx)
  have H := Lib.hid hv
  have hlen0 : 0 < l.length := by
    cases l with
    | nil => exact absurd rfl hne
    | cons a t => simp
  obtain ⟨p, c, rfl⟩ := hv.shape
  obtain ⟨len, hlen⟩ : ∃ n, l.length = n := ⟨_, rfl⟩
  have HN := Lib.hid hlen
  have H0 : Hid (l.getD 0 0 = pickS lots false (l.take 1)) := Lib.hid (by
    cases l with
    | nil => exact absurd rfl hne
    | cons a t => simp [pickS])
  rw [hlen] at hln H hlen0 AP ST ⊢
  obtain ⟨bb, off, hp0, hc1, hc2, hcell⟩ := H.out.cellAt 0 (by rw [HN.out]; exact hlen0)
  subst hp0
  obtain ⟨m0, hm0⟩ : ∃ m, l.getD 0 0 = m := ⟨_, rfl⟩
  rw [hm0] at hcell H0
  have hcell : w.cell? ⟨bb, off, none⟩ = some (.int .i64 m0) := hcell
  have hlz : ¬ (len : Int) < 1 := by omega
  have hlz0 : (0 : Int) < (len : Int) := by omega
  clear hv hK hl hne hnd hm hlen hm0
  go_enter Try.func31, Try.ntmps31
  go_wp2_with fail
  go_loopw [5, 6] (fun mv iv wr => ∃ k : Nat, ∃ m : Int, 1 ≤ k ∧ k ≤ len ∧ iv = .int .i64 k ∧ mv = .int .i64 m ∧ Below w.heap.size w wr ∧ Hid (m = pickS lots false (l.take k))) (fun _ iv _ => len - (intOf iv).toNat)
  case atStart => exact ⟨1, m0, by omega, by omega, rfl, rfl, Below.refl _ _, H0⟩
  case round =>
    obtain ⟨k, m, hk1, hk, rfl, rfl, hbel, hP⟩ := hrel
    by_cases hlt : k < len
    · have hltz : (k : Int) < (len : Int) := by omega
      obtain ⟨bb2, off2, hp2, _, _, hcellk⟩ := (H.out.keep hbel).cellAt k (by rw [HN.out]; exact hlt)
      simp only [Option.some.injEq, Addr.mk.injEq, and_true] at hp2
      obtain ⟨rfl, rfl⟩ := hp2
      obtain ⟨x, hx⟩ : ∃ y, l.getD k 0 = y := ⟨_, rfl⟩
      rw [hx] at hcellk
      obtain ⟨ap1, ap2, ap3⟩ := AP.out k x hk1 hlt hx
      rw [← hP.out] at ap1 ap3
      have hst := ST.out k x hk1 hlt hx
      rw [← hP.out] at hst
      unfold pickStep at hst
      have C := PR.out wr hbel x m ap2 ap1
      obtain ⟨a, ha⟩ : ∃ a, placeN lots x = a := ⟨_, rfl⟩
      obtain ⟨b, hb⟩ : ∃ a, placeN lots m = a := ⟨_, rfl⟩
      rw [ha, hb] at C
      rw [ha, hb] at hst
      rw [ha, hb] at ap3
      obtain ⟨d, hd⟩ : ∃ d : Int, (a : Int) - (b : Int) = d := ⟨_, rfl⟩
      rw [hd] at C
      have C := Lib.hid C
      by_cases hab : b < a
      · have hd0 : 0 < d := by omega
        have HX : Hid (m = pickS lots false (l.take (k + 1))) := Lib.hid (by rw [hst, decide_eq_true hab]; rfl)
        clear hst ap1 ap2 ap3 ha hb hd hx
        go_wp2_with (go_at_call 28; ((with_reducible refine C.out.mono ?_); rintro e w1 ⟨rfl, hb1⟩; have hB1 := bel2' hbel hb1; have hck := cell_keep hb1 hcellk))
        go_roundw
        case rel => exact ⟨k + 1, m, by omega, by omega, by go_num, rfl, hB1, HX⟩
        case measure => simp [intOf] <;> omega
      · have hd0 : d < 0 := by omega
        have HX : Hid (x = pickS lots false (l.take (k + 1))) := Lib.hid (by rw [hst, decide_eq_false hab]; rfl)
        clear hst ap1 ap2 ap3 ha hb hd hx
        go_wp2_with (go_at_call 28; ((with_reducible refine C.out.mono ?_); rintro e w1 ⟨rfl, hb1⟩; have hB1 := bel2' hbel hb1; have hck := cell_keep hb1 hcellk))
        go_roundw
        case rel => exact ⟨k + 1, x, by omega, by omega, by go_num, rfl, hB1, HX⟩
        case measure => simp [intOf] <;> omega
    · have hltz : ¬ (k : Int) < (len : Int) := by omega
      have HX : Hid (m = pickS lots false l) := Lib.hid (by rw [hP.out, List.take_of_length_le (by rw [HN.out]; omega)])
      go_wp2_with fail
      go_ret
      exact ⟨ret_ii HX.out, hbel⟩

set_option maxHeartbeats 1000000 in
theorem iclone_c {v : Value} {l : List Int} {w : World} (h : IntsAt w v l) (hl : l.length ≤ 1000000000) :
    Calls Try.prog 26 #[v] w fun e w' => ∃ v', e = .returned v' ∧ IntsAt w' v' l ∧ Below w.heap.size w w' := by
  have own0 : ∀ w : World, (w.alloc (.cells #[] 3)).ownsRow w.heap.size 3 1 (.slice (some ⟨w.heap.size, 0, none⟩) 0 0) 0 [] := fun w =>
    World.ownsRow_lit w #[] 0 (Nat.le_refl _) (Nat.zero_le _) rfl
  have heqn := fun (w : World) (a : Option Addr) (n c : Nat) => Lib.run_eql_slice_nil (P := Try.prog) w 23 3 a n c 0 0 Try.underlying23
  rcases RowAt.cases h with ⟨h0, p, cap, rfl, _, h3⟩ | ⟨h1, b, off, cap, rfl, hc, hm, hb, hcell⟩
  · obtain rfl : l = [] := by simpa using h0
    cases p with
    | none =>
      obtain rfl := h3 rfl
      have H := Lib.hid h
      clear h hl
      go_enter Try.func26, Try.ntmps26
      go_wp2_with fail
      go_ret
      exact ⟨_, rfl, H.out, Below.refl _ _⟩
    | some q =>
      have H := Lib.hid h
      have O := Lib.hid (own0 w)
      clear h own0 hl
      go_enter Try.func26, Try.ntmps26
      go_wp2_with (at_builtin; (refine append_row erI (base := w.heap.size) (n := 0) (xs := []) (news := []) (by rfl) (by rfl) O.out (by rfl) (by rfl) (by rfl) (fun j u h => by simp at h) (fun u h => by simp at h) (by omega) (by omega) (by simp) ?_); intro v' w1 hown1 _ hb1)
      go_ret
      exact ⟨_, rfl, by have g := RowAt.owned hown1; unfold IntsAt; simpa using g, (below_new hb1)⟩
  · have H := Lib.hid h
    have O := Lib.hid (own0 w)
    have hcells : ∀ j u, (l.map (Value.int .i64))[j]? = some u → (w.alloc (.cells #[] 3)).cell? ((⟨b, off, none⟩ : Addr).add j) = some u := fun j u hj => by
      rw [Addr.add_lit]
      exact cell_alloc_old (hcell j u hj)
    have HCS := Lib.hid hcells
    have HO := Lib.hid (ints_one l)
    clear h hcell own0 hcells
    go_enter Try.func26, Try.ntmps26
    go_wp2_with (at_builtin; go_must (refine append_row erI (base := w.heap.size) (n := 0) (xs := []) (news := l.map (Value.int .i64)) (by rfl) (by rfl) O.out (by rfl) (by rfl) (by rw [List.length_map, Nat.mul_one]) HCS.out HO.out (by simp; omega) (by simp; omega) (by simp) ?_); intro v' w1 hown1 _ hb1)
    go_ret
    exact ⟨_, rfl, by have g := RowAt.owned hown1; unfold IntsAt; simpa using g, (below_new hb1)⟩

end Go.Proofs.Ythplbhgbgcfogaa
